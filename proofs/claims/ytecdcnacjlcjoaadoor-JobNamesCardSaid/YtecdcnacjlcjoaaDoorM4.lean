/- Walks over the machine: what a region's operations come to, by rules. First part: what is asked, and small laws. -/
import Derived.Test.YtecdcnacjlcjoaaDoorM3
import GoSem.ClaimChange
import Derived.ChangeReads
import Derived.RowKit
/- Walks over the machine: what a region's operations come to, by rules. First part: what is asked, and small laws. -/
namespace Go.Proofs.YtecdcnacjlcjoaaDoor.Am
set_option linter.unusedVariables false
set_option linter.unusedSimpArgs false

abbrev Env := List (Nat × AV)
abbrev Hp := List (Option Blk)
abbrev Cl := List (Nat × Nat)
abbrev K4 := Env → Hp → List Nat → Cl → Prop

/-- Whatever the fuel, from some on. -/
def Ev (p : Nat → Prop) : Prop := ∃ N, ∀ n, N ≤ n → p n
theorem Ev.of {p : Nat → Prop} (h : ∀ n, p n) : Ev p := ⟨0, fun n _ => h n⟩
theorem Ev.mono {p q : Nat → Prop} (h : Ev p) (k : ∀ n, p n → q n) : Ev q := h.imp fun _ h n hn => k n (h n hn)
theorem Ev.both {p q : Nat → Prop} (h : Ev p) (k : Ev q) : Ev fun n => p n ∧ q n := by
  obtain ⟨N, h⟩ := h
  obtain ⟨M, k⟩ := k
  exact ⟨max N M, fun n hn => ⟨h n (Nat.le_trans (Nat.le_max_left _ _) hn), k n (Nat.le_trans (Nat.le_max_right _ _) hn)⟩⟩
theorem Ev.succ {p q : Nat → Prop} (h : Ev p) (k : ∀ n, p n → q (n + 1)) : Ev q := by
  obtain ⟨N, h⟩ := h
  refine ⟨N + 1, fun n hn => ?_⟩
  cases n with
  | zero => omega
  | succ n => exact k n (h n (by omega))

def drp (slots : List Nat) (s : Nat) : List Nat := slots.filter fun q => !(Nat.beq s q)
def has (slots : List Nat) (s : Nat) : Bool := slots.any (Nat.beq s)
theorem has_iff {l : List Nat} {s : Nat} : has l s = true ↔ s ∈ l := by
  unfold has
  rw [List.any_eq_true]
  exact ⟨fun ⟨q, h, e⟩ => Nat.eq_of_beq_eq_true e ▸ h, fun h => ⟨s, h, Nat.beq_refl s⟩⟩
theorem mem_drp {l : List Nat} {s q : Nat} : q ∈ drp l s ↔ q ∈ l ∧ s ≠ q := by
  unfold drp
  rw [List.mem_filter]
  constructor
  · rintro ⟨h, e⟩; exact ⟨h, fun e' => by subst e'; rw [Nat.beq_refl] at e; cases e⟩
  · rintro ⟨h, e⟩
    refine ⟨h, ?_⟩
    cases hb : Nat.beq s q with
    | false => rfl
    | true => exact absurd (Nat.eq_of_beq_eq_true hb) e

/-- These ends, at least, are one's own. -/
structure Owned (sl : List Nat) (cl : Cl) (own : List Loc) : Prop where
  slot : ∀ s, s ∈ sl → Loc.slot s ∈ own
  cell : ∀ i o, (i, o) ∈ cl → Loc.cell i o ∈ own
/-- A slot, where it is known. -/
def lookE : Env → Nat → Option AV
  | [], _ => none
  | (s, x) :: r, t => cond (Nat.beq s t) (some x) (lookE r t)
def opE (env : Env) : Operand → Option AV
  | .tmp t => lookE env t
  | .const v => constAV v
  | .global _ => none
  | .func f => some (.fn f [])
def opsE (env : Env) : List Operand → Option (List AV)
  | [] => some []
  | x :: r => match opE env x, opsE env r with
    | some v, some vs => some (v :: vs)
    | _, _ => none
/-- The state is so, as far as is told. -/
structure Sm (env : Env) (H : Hp) (sl : List Nat) (cl : Cl) (st : St) : Prop where
  env : ∀ s v, lookE env s = some v → look st.env s = v
  H : st.H = H
  own : Owned sl cl st.own

theorem look_lookE : ∀ {env : Env} {s : Nat} {v : AV}, lookE env s = some v → look env s = v
  | [], s, v, h => by cases h
  | (q, x) :: r, s, v, h => by
    unfold lookE at h
    unfold look
    cases hb : Nat.beq q s with
    | true => rw [hb] at h; simp only [cond_true] at h ⊢; injection h
    | false => rw [hb] at h; simp only [cond_false] at h ⊢; exact look_lookE h
section
variable {env : Env} {env' : List (Nat × AV)}
def EnvLe (env : Env) (env' : List (Nat × AV)) : Prop := ∀ s v, lookE env s = some v → look env' s = v
theorem EnvLe.opd (h : EnvLe env env') {x : Operand} {v : AV} (hx : opE env x = some v) : evalO env' x = some v := by
  cases x with
  | tmp t => show some (look env' t) = some v; rw [h t v hx]
  | const c => exact hx
  | global g => cases hx
  | func f => exact hx
theorem EnvLe.ops (h : EnvLe env env') : ∀ {l : List Operand} {vs : List AV}, opsE env l = some vs → evalL env' l = some vs
  | [], vs, hx => hx
  | x :: r, vs, hx => by
    unfold opsE at hx
    cases h1 : opE env x with
    | none => rw [h1] at hx; cases hx
    | some v =>
      cases h2 : opsE env r with
      | none => rw [h1, h2] at hx; cases hx
      | some ws =>
        rw [h1, h2] at hx
        simp only at hx
        unfold evalL
        rw [h.opd h1, h.ops h2]
        exact hx
theorem EnvLe.cons (h : EnvLe env env') (d : Nat) (v : AV) : EnvLe ((d, v) :: env) ((d, v) :: env') := by
  intro s x hx
  unfold lookE at hx
  unfold look
  cases hb : Nat.beq d s with
  | true => rw [hb] at hx; simp only [cond_true] at hx ⊢; injection hx
  | false => rw [hb] at hx; simp only [cond_false] at hx ⊢; exact h s x hx
end

theorem Owned.drop {sl : List Nat} {cl : Cl} {own : List Loc} (h : Owned sl cl own) (s : Nat) : Owned (drp sl s) cl (drop own (.slot s)) :=
  ⟨fun q hq => by rw [mem_drp] at hq; exact mem_drop.2 ⟨h.slot q hq.1, fun e => by injection e with e; exact hq.2 e.symm⟩, fun i o hp => mem_drop.2 ⟨h.cell i o hp, fun e => by cases e⟩⟩
theorem Owned.sub {sl sl' : List Nat} {cl cl' : Cl} {own : List Loc} (h : Owned sl cl own) (h1 : ∀ s, s ∈ sl' → s ∈ sl) (h2 : ∀ p, p ∈ cl' → p ∈ cl) : Owned sl' cl' own :=
  ⟨fun s hs => h.slot s (h1 s hs), fun i o hp => h.cell i o (h2 _ hp)⟩
theorem drp_sub {sl : List Nat} {s q : Nat} (h : q ∈ drp sl s) : q ∈ sl := (mem_drp.1 h).1
/-- What a slot has its end from, when a value is put into it. -/
def putSl (sl : List Nat) (g : Bool) (d : Nat) : List Nat := cond g (d :: drp sl d) (drp sl d)
theorem Owned.put {sl : List Nat} {cl : Cl} {own : List Loc} (h : Owned sl cl own) {g g' : Bool} (hg : g = true → g' = true) (d : Nat) : Owned (putSl sl g d) cl (cond g' (give own (.slot d)) (Go.Proofs.YtecdcnacjlcjoaaDoor.Am.drop own (.slot d))) := by
  have hd := h.drop d
  have hsub : ∀ l, l ∈ Go.Proofs.YtecdcnacjlcjoaaDoor.Am.drop own (.slot d) → l ∈ cond g' (give own (.slot d)) (Go.Proofs.YtecdcnacjlcjoaaDoor.Am.drop own (.slot d)) := by
    intro l hl
    cases g' with
    | false => exact hl
    | true => exact List.mem_cons_of_mem _ hl
  refine ⟨fun s hs => ?_, fun i o hp => hsub _ (hd.cell i o hp)⟩
  cases g with
  | false => exact hsub _ (hd.slot s hs)
  | true =>
    rcases List.mem_cons.1 hs with rfl | hs
    · rw [hg rfl]; exact List.mem_cons_self
    · exact hsub _ (hd.slot s hs)

/-! ### operations that neither read nor write cells, by what is known of the slots -/
def partsE (env : Env) : List (Nat × Operand) → Option (List (Nat × AV))
  | [] => some []
  | (i, x) :: r => match opE env x, partsE env r with
    | some v, some vs => some ((i, v) :: vs)
    | _, _ => none
def optE (env : Env) : Option Operand → Option (Option AV)
  | none => some none
  | some x => (opE env x).map some
/-- 'buildA', by lists. -/
def buildB (P : Program) (t : TypeId) (parts : List (Nat × AV)) : Option AV :=
  match zeroT P t, P.underlying t with
  | some z, some (.struct fields) => match fields.toList.all fun f => (sizeT P f.type).isSome with
    | true => (fillA (places P fields) z parts).map .agg
    | false => none
  | some z, some (.array _ elem) => match sizeT P elem with
    | some size => (fillA (fun i => some (i * size, size)) z parts).map .agg
    | none => none
  | _, _ => none
theorem buildB_eq (P : Program) (t : TypeId) (parts : List (Nat × AV)) : buildB P t parts = buildA P t parts := by
  unfold buildB buildA
  cases zeroT P t with
  | none => rfl
  | some z =>
    cases P.underlying t with
    | none => rfl
    | some d =>
      cases d with
      | struct fields =>
        simp only
        rw [Array.all_toList]
        cases fields.all fun f => (sizeT P f.type).isSome <;> rfl
      | array n elem => simp only; cases sizeT P elem <;> rfl
      | _ => rfl
def pureE (P : Program) (env : Env) (op : Op) : Option AV :=
  match op with
  | .pick c a b => match opE env c, opE env a, opE env b with
    | some (.bool t), some a, some b => some (cond t a b)
    | _, _, _ => none
  | .build t parts => match partsE env parts.toList with
    | some ps => buildB P t ps
    | none => none
  | .nilCheck x => match opE env x with
    | some (.ptr i o) => some (.ptr i o)
    | some (.ept c o) => some (.ept c o)
    | some (.iface t v) => some (.iface t v)
    | some (.fn f c) => some (.fn f c)
    | _ => none
  | .binOp op t x y _ => match opE env x, opE env y with
    | some a, some b => binOpA P op t x y a b
    | _, _ => none
  | .unOp op _ x => match opE env x with
    | some a => unOpA op a
    | none => none
  | .convert src dst x => match opE env x with
    | some a => convA P src dst a
    | none => none
  | .makeInterface t x => match opE env x, P.underlying t with
    | some a, some (.interface _) => none
    | some a, some _ => some (.iface t a)
    | _, _ => none
  | .makeFunc (.func f) first captured => if first.size = 0 then (opsE env captured.toList).map (.fn f) else none
  | .slice t x lo hi mx => match opE env x, optE env lo, optE env hi, optE env mx with
    | some a, some l, some h, some m => sliceA P t a l h m
    | _, _, _, _ => none
  | .fieldAddr s x f => match opE env x, fieldOff P s f with
    | some (.ptr id off), some o => some (.ptr id (off + o))
    | some (.ept cs off), some o => some (.ept cs (off + o))
    | _, _ => none
  | .field t x f => match opE env x, P.underlying t with
    | some (.agg cs), some (.struct fields) => match fields[f]? with
      | some fd => partA P fd.type cs fd.offset
      | none => none
    | _, _ => none
  | .indexAddr t x i => match opE env x, opE env i with
    | some a, some b => indexAddrA P t a b
    | _, _ => none
  | .index t x i => match opE env x, opE env i with
    | some a, some b => indexA P t a b
    | _, _ => none
  | .extract t i => match opE env t with
    | some (.tup vs) => vs[i]?
    | _ => none
  | .call { callee := .builtin .len, args, argTypes } => match args.toList, argTypes.toList with
    | [x], [t] => match P.underlying t, opE env x with
      | some .string, some (.str s) => some (.int .i64 s.length)
      | some (.slice _), some (.lst _ xs _) => some (.int .i64 xs.length)
      | some (.slice _), some (.sl _ _ _ n) => some (.int .i64 n)
      | some (.slice _), some (.vw _ _ _ n) => some (.int .i64 n)
      | some (.slice _), some .nils => some (.int .i64 0)
      | some (.array n _), some _ => some (.int .i64 n)
      | some (.map _ _), some .nilm => some (.int .i64 0)
      | _, _ => none
    | _, _ => none
  | .typeAssert x _ t ok => match opE env x, P.underlying t with
    | some (.iface _ _), some (.interface _) => none
    | some (.iface t' v), some _ => cond (Nat.beq t' t) (cond ok (some (.tup [v, .bool true])) (some v)) none
    | _, _ => none
  | _ => none

section
variable {P : Program} {env : Env} {env' : List (Nat × AV)}
theorem EnvLe.parts (h : EnvLe env env') : ∀ {l : List (Nat × Operand)} {vs : List (Nat × AV)}, partsE env l = some vs → evalParts env' l = some vs
  | [], vs, hx => hx
  | (i, x) :: r, vs, hx => by
    unfold partsE at hx
    cases h1 : opE env x with
    | none => rw [h1] at hx; cases hx
    | some v =>
      cases h2 : partsE env r with
      | none => rw [h1, h2] at hx; cases hx
      | some ws =>
        rw [h1, h2] at hx
        simp only at hx
        unfold evalParts
        rw [h.opd h1, h.parts h2]
        exact hx
theorem EnvLe.opt (h : EnvLe env env') {x : Option Operand} {v : Option AV} (hx : optE env x = some v) : optA env' x = some v := by
  cases x with
  | none => exact hx
  | some x =>
    have hx : (opE env x).map some = some v := hx
    show (evalO env' x).map some = some v
    cases h1 : opE env x with
    | none => rw [h1] at hx; cases hx
    | some a => rw [h.opd h1]; rw [h1] at hx; exact hx

theorem pureE_to (h : EnvLe env env') {op : Op} {v : AV} (hp : pureE P env op = some v) : pureOp P env' op = some v := by
  unfold pureE at hp
  split at hp
  case h_1 c a b =>
    split at hp
    · rename_i t a' b' h1 h2 h3
      unfold pureOp
      simp only [h.opd h1, h.opd h2, h.opd h3]
      cases t <;> exact hp
    · cases hp
  case h_2 t parts =>
    split at hp
    · rename_i ps h1
      unfold pureOp
      simp only [h.parts h1]
      rw [← buildB_eq]; exact hp
    · cases hp
  case h_3 x =>
    unfold pureOp
    cases h1 : opE env x with
    | none => rw [h1] at hp; cases hp
    | some a => simp only [h.opd h1]; rw [h1] at hp; exact hp
  case h_4 op t x y c =>
    unfold pureOp
    cases h1 : opE env x with
    | none => rw [h1] at hp; cases hp
    | some a =>
      cases h2 : opE env y with
      | none => rw [h1, h2] at hp; cases hp
      | some b => simp only [h.opd h1, h.opd h2]; rw [h1, h2] at hp; exact hp
  case h_5 op t x =>
    unfold pureOp
    cases h1 : opE env x with
    | none => rw [h1] at hp; cases hp
    | some a => simp only [h.opd h1]; rw [h1] at hp; exact hp
  case h_6 op t x =>
    unfold pureOp
    cases h1 : opE env x with
    | none => rw [h1] at hp; cases hp
    | some a => simp only [h.opd h1]; rw [h1] at hp; exact hp
  case h_7 t x =>
    unfold pureOp
    cases h1 : opE env x with
    | none => rw [h1] at hp; cases hp
    | some a => simp only [h.opd h1]; rw [h1] at hp; exact hp
  case h_8 f first captured =>
    unfold pureOp
    simp only
    split at hp
    · rename_i hf
      rw [if_pos hf]
      cases h1 : opsE env captured.toList with
      | none => rw [h1] at hp; cases hp
      | some vs => rw [h.ops h1]; rw [h1] at hp; exact hp
    · cases hp
  case h_9 t x lo hi mx =>
    split at hp
    · rename_i a l hh m h1 h2 h3 h4
      unfold pureOp
      simp only [h.opd h1, h.opt h2, h.opt h3, h.opt h4]
      exact hp
    · cases hp
  case h_10 s x f =>
    unfold pureOp
    cases h1 : opE env x with
    | none => rw [h1] at hp; cases hp
    | some a => simp only [h.opd h1]; rw [h1] at hp; exact hp
  case h_11 t x f =>
    unfold pureOp
    cases h1 : opE env x with
    | none => rw [h1] at hp; cases hp
    | some a => simp only [h.opd h1]; rw [h1] at hp; exact hp
  case h_12 t x i =>
    unfold pureOp
    cases h1 : opE env x with
    | none => rw [h1] at hp; cases hp
    | some a =>
      cases h2 : opE env i with
      | none => rw [h1, h2] at hp; cases hp
      | some b => simp only [h.opd h1, h.opd h2]; rw [h1, h2] at hp; exact hp
  case h_13 t x i =>
    unfold pureOp
    cases h1 : opE env x with
    | none => rw [h1] at hp; cases hp
    | some a =>
      cases h2 : opE env i with
      | none => rw [h1, h2] at hp; cases hp
      | some b => simp only [h.opd h1, h.opd h2]; rw [h1, h2] at hp; exact hp
  case h_14 t i =>
    unfold pureOp
    cases h1 : opE env t with
    | none => rw [h1] at hp; cases hp
    | some a => simp only [h.opd h1]; rw [h1] at hp; exact hp
  case h_15 args at_ =>
    unfold pureOp
    simp only
    split at hp
    · rename_i x t hx ht
      simp only [hx, ht]
      cases h1 : opE env x with
      | none =>
        rw [h1] at hp
        split at hp <;> first | (cases hp; done) | (rename_i hh; cases hh; done)
      | some a => rw [h.opd h1]; rw [h1] at hp; exact hp
    · cases hp
  case h_16 x it t ok =>
    unfold pureOp
    cases h1 : opE env x with
    | none => rw [h1] at hp; cases hp
    | some a => simp only [h.opd h1]; rw [h1] at hp; exact hp
  case h_17 => cases hp
end
end Go.Proofs.YtecdcnacjlcjoaaDoor.Am

/- Walks over the machine, second part: what stands in a region, by rules. -/
namespace Go.Proofs.YtecdcnacjlcjoaaDoor.Am
set_option linter.unusedVariables false
set_option linter.unusedSimpArgs false

/-- How a region is run: in its order, or in any. -/
inductive Md where
  | plain
  | draw (base : Nat) (lt : Option (List Nat)) (mx : Bool)
def Md.pre : Md → Option (Nat × Option (List Nat))
  | .plain => none
  | .draw b lt _ => some (b, lt)
def Md.call (md : Md) (P : Program) (K : Know) (n : Nat) : CallA :=
  match md with
  | .plain => cN P K n
  | .draw _ _ mx => cond mx (dN P K n) (cN P K n)
/-- What is known where calls go. -/
def Md.know (md : Md) (K : Know) (H : Hp) : Know :=
  match md with
  | .plain => K
  | .draw _ _ mx => cond mx (K.up H.length) K
def Md.above (md : Md) (K : Know) (H : Hp) : Bool :=
  match md with
  | .plain => true
  | .draw _ _ mx => cond mx (Nat.ble K.lo H.length) true
theorem Md.call_lo (md : Md) (P : Program) (K : Know) (n : Nat) : (md.call P K n).lo = K.lo := by
  cases md with
  | plain => rfl
  | draw b lt mx => cases mx <;> rfl
theorem Md.call_run (md : Md) (P : Program) (K : Know) (n : Nat) (f : FuncId) (args : List AV) (H : Hp) (own : List Loc) (h : md.above K H = true) : (md.call P K n).run f args H own = callK P n (md.know K H) f args H own := by
  cases md with
  | plain => rfl
  | draw b lt mx =>
    cases mx with
    | false => rfl
    | true =>
      show cond (Nat.ble K.lo H.length) _ none = _
      have h : Nat.ble K.lo H.length = true := h
      rw [h]; rfl
def stepM (P : Program) (K : Know) (nt : Nat) (md : Md) (ops : List Oper) (n : Nat) (o : Oper) (st : St) : Option St :=
  match md with
  | .plain => stepZ (cN P K n) (yieldA K.lo (execK P n K)) P nt ops o st
  | .draw _ _ _ => stepW (md.call P K n) P nt md.pre ops o st
def runM (P : Program) (K : Know) (nt : Nat) (md : Md) (ops : List Oper) (n : Nat) : List Oper → St → Option St
  | [], st => some st
  | o :: r, st => match stepM P K nt md ops n o st with
    | some st' => runM P K nt md ops n r st'
    | none => none
section
variable {P : Program} {K : Know} {nt : Nat} {ops : List Oper}
theorem runM_plain (n : Nat) : ∀ (l : List Oper) (st : St), runM P K nt .plain ops n l st = runOpsZ (cN P K n) (yieldA K.lo (execK P n K)) P nt ops l st
  | [], st => rfl
  | o :: r, st => by
    unfold runM runOpsZ
    show (match stepZ (cN P K n) (yieldA K.lo (execK P n K)) P nt ops o st with | some st' => _ | none => _) = _
    cases stepZ (cN P K n) (yieldA K.lo (execK P n K)) P nt ops o st with
    | none => rfl
    | some st' => exact runM_plain n r st'
theorem runM_draw (n : Nat) (b : Nat) (lt : Option (List Nat)) (mx : Bool) : ∀ (l : List Oper) (st : St), runM P K nt (.draw b lt mx) ops n l st = runOps (cond mx (dN P K n) (cN P K n)) P nt (some (b, lt)) ops l st
  | [], st => rfl
  | o :: r, st => by
    unfold runM runOps
    show (match stepW (cond mx (dN P K n) (cN P K n)) P nt (some (b, lt)) ops o st with | some st' => _ | none => _) = _
    cases stepW (cond mx (dN P K n) (cN P K n)) P nt (some (b, lt)) ops o st with
    | none => rfl
    | some st' => exact runM_draw n b lt mx r st'
end

/-- A region's operations end in Q. -/
structure O (P : Program) (K : Know) (nt : Nat) (md : Md) (ops l : List Oper) (env : Env) (H : Hp) (sl : List Nat) (cl : Cl) (Q : K4) : Prop where
  to : ∀ st, Sm env H sl cl st → ∃ env' H' sl' cl' st', Q env' H' sl' cl' ∧ Sm env' H' sl' cl' st' ∧ Ev fun n => runM P K nt md ops n l st = some st'

/-- What is asked of an operation that is asked for. -/
def wantE (ops : List Oper) (env : Env) (g : Option (Nat × Bool)) : Option Bool :=
  match g with
  | none => some true
  | some (j, want) => match ops[j]? with
    | some { dst := some d, .. } => match lookE env d with
      | some (.bool b) => some (b == want)
      | some (.tup []) => some false
      | _ => none
    | _ => none

section
variable {P : Program} {K : Know} {nt : Nat} {md : Md} {ops r : List Oper} {env : Env} {H : Hp} {sl : List Nat} {cl : Cl} {Q : K4}

theorem wantE_to {env' : List (Nat × AV)} (h : EnvLe env env') {o : Oper} {b : Bool} (hw : wantE ops env o.guard = some b) : wantedA ops env' o = some b := by
  unfold wantE at hw
  unfold wantedA
  split at hw
  · rename_i hg; rw [hg]; exact hw
  · rename_i j want hg
    rw [hg]
    simp only
    split at hw
    · rename_i ho
      rw [ho]
      simp only
      split at hw
      · rename_i hl; rw [h _ _ hl]; exact hw
      · rename_i hl; rw [h _ _ hl]; exact hw
      · cases hw
    · cases hw

/-- An operation by itself, in a region. -/
def coreM (P : Program) (K : Know) (md : Md) (ops : List Oper) (n : Nat) (o : Oper) (st : St) : Option Res :=
  match (match md with | .plain => yieldOp st.env o | _ => none) with
  | some (id, vs) => match yieldA K.lo (execK P n K) id vs st.H (canon (st.own.filter Loc.isCell)) with
    | some (x, H', own') => some ⟨x, H', st.own.filter (fun l => !l.isCell) ++ own'.filter Loc.isCell, false⟩
    | none => none
  | none => coreP (md.call P K n) P md.pre ops o st.env st.H st.own
theorem stepM_core {n : Nat} {o : Oper} {st : St} {v : Res} (hw : wantedA ops st.env o = some true) (h : coreM P K md ops n o st = some v) : stepM P K nt md ops n o st = v.put nt st.env o.dst := by
  unfold stepM
  unfold coreM at h
  cases md with
  | plain =>
    simp only at h ⊢
    unfold stepZ
    rw [hw]
    simp only
    cases hy : yieldOp st.env o with
    | none =>
      rw [hy] at h
      simp only at h ⊢
      unfold stepOp
      have h : coreP (cN P K n) P none ops o st.env st.H st.own = some v := h
      rw [h]
    | some p =>
      obtain ⟨id, vs⟩ := p
      rw [hy] at h
      simp only at h ⊢
      cases hz : yieldA K.lo (execK P n K) id vs st.H (canon (st.own.filter Loc.isCell)) with
      | none => rw [hz] at h; cases h
      | some q =>
        obtain ⟨x, H', own'⟩ := q
        rw [hz] at h
        simp only [Option.some.injEq] at h ⊢
        subst h
        rfl
  | draw b lt mx =>
    simp only at h ⊢
    unfold stepW
    rw [hw]
    simp only
    unfold stepOp
    rw [h]

theorem O_nil (h : Q env H sl cl) : O P K nt md ops [] env H sl cl Q := ⟨fun st hs => ⟨env, H, sl, cl, st, h, hs, Ev.of fun n => rfl⟩⟩

theorem sm_put {st : St} (hs : Sm env H sl cl st) {d : Nat} {v : AV} {H1 : Hp} {sl1 : List Nat} {cl1 : Cl} {own : List Loc} {g g' : Bool} (ho : Owned sl1 cl1 own) (hg : g = true → g' = true) :
    Sm ((d, v) :: env) H1 (putSl sl1 g d) cl1 ⟨(d, v) :: st.env, H1, cond g' (give own (.slot d)) (drop own (.slot d))⟩ :=
  ⟨EnvLe.cons hs.env d v, rfl, ho.put hg d⟩

/-- A step, by what it comes to. -/
theorem O_step {o : Oper} {d : Nat} {v : AV} {H1 : Hp} {sl1 : List Nat} {cl1 : Cl} {g : Bool} (hdst : o.dst = some d) (hw : wantE ops env o.guard = some true) (hd : Nat.blt d nt = true)
    (hc : ∀ st, Sm env H sl cl st → ∃ own' g', Owned sl1 cl1 own' ∧ (g = true → g' = true) ∧ Ev fun n => coreM P K md ops n o st = some ⟨v, H1, own', g'⟩)
    (k : O P K nt md ops r ((d, v) :: env) H1 (putSl sl1 g d) cl1 Q) : O P K nt md ops (o :: r) env H sl cl Q := by
  refine ⟨fun st hs => ?_⟩
  obtain ⟨own', g', h1, h2, h3⟩ := hc st hs
  obtain ⟨env', H', sl', cl', st', hq, h4, h5⟩ := k.to _ (sm_put hs h1 h2)
  refine ⟨env', H', sl', cl', st', hq, h4, (h3.both h5).mono fun n hn => ?_⟩
  unfold runM
  rw [stepM_core (wantE_to hs.env hw) hn.1, hdst]
  unfold Res.put
  simp only
  rw [if_pos (Nat.blt_eq.mp hd)]
  exact hn.2
theorem O_step0 {o : Oper} {v : AV} {H1 : Hp} {sl1 : List Nat} {cl1 : Cl} (hdst : o.dst = none) (hw : wantE ops env o.guard = some true)
    (hc : ∀ st, Sm env H sl cl st → ∃ own' g', Owned sl1 cl1 own' ∧ Ev fun n => coreM P K md ops n o st = some ⟨v, H1, own', g'⟩)
    (k : O P K nt md ops r env H1 sl1 cl1 Q) : O P K nt md ops (o :: r) env H sl cl Q := by
  refine ⟨fun st hs => ?_⟩
  obtain ⟨own', g', h1, h3⟩ := hc st hs
  obtain ⟨env', H', sl', cl', st', hq, h4, h5⟩ := k.to ⟨st.env, H1, own'⟩ ⟨hs.env, rfl, h1⟩
  refine ⟨env', H', sl', cl', st', hq, h4, (h3.both h5).mono fun n hn => ?_⟩
  unfold runM
  rw [stepM_core (wantE_to hs.env hw) hn.1, hdst]
  exact hn.2
/-- It is not asked for. -/
theorem O_skip {d : Nat} {op : Op} {ty : TypeId} {pos : String} {af : Array Edge} {g : Option (Nat × Bool)} (hw : wantE ops env g = some false) (hd : Nat.blt d nt = true)
    (k : O P K nt md ops r ((d, .tup []) :: env) H (drp sl d) cl Q) : O P K nt md ops (⟨some d, op, ty, pos, af, g⟩ :: r) env H sl cl Q := by
  refine ⟨fun st hs => ?_⟩
  obtain ⟨env', H', sl', cl', st', hq, h4, h5⟩ := k.to _ (sm_put (g := false) (g' := false) hs hs.own (fun e => e))
  refine ⟨env', H', sl', cl', st', hq, h4, h5.mono fun n hn => ?_⟩
  have hw' := wantE_to (o := ⟨some d, op, ty, pos, af, g⟩) hs.env hw
  have e : stepM P K nt md ops n ⟨some d, op, ty, pos, af, g⟩ st = some ⟨(d, .tup []) :: st.env, H, cond false (give st.own (.slot d)) (drop st.own (.slot d))⟩ := by
    rw [← hs.H]
    cases md with
    | plain =>
      show stepZ _ _ P nt ops _ st = _
      unfold stepZ
      rw [hw']
      simp only [Res.put]
      rw [if_pos (Nat.blt_eq.mp hd)]
    | draw b lt mx =>
      show stepW _ P nt _ ops _ st = _
      unfold stepW
      rw [hw']
      simp only [Res.put]
      rw [if_pos (Nat.blt_eq.mp hd)]
  unfold runM
  rw [e]
  exact hn
/-- No operation that makes a list that is written into, nor, in a region that draws its order, a block. -/
def dry (P : Program) (md : Md) (o : Oper) : Bool := (slElem P o).isNone && match md with
  | .plain => true
  | .draw _ _ _ => !(allocOp o)
def lateE (md : Md) (o : Oper) (env : List (Nat × AV)) : Bool :=
  match md with
  | .plain => true
  | .draw b lt _ => !(lateNo b lt o env)
theorem coreP_core {call : CallA} {o : Oper} {env' : List (Nat × AV)} {own : List Loc} (h : dry P md o = true) (hl : lateE md o env' = true) : coreP call P md.pre ops o env' H own = core call P ops o env' H own := by
  unfold dry at h
  rw [Bool.and_eq_true] at h
  have hs : slElem P o = none := by
    cases hh : slElem P o with
    | none => rfl
    | some e => rw [hh] at h; cases h.1
  have hS : coreS call P ops o env' H own = core call P ops o env' H own := by unfold coreS; rw [hs]
  unfold coreP
  cases md with
  | plain => exact hS
  | draw b lt mx =>
    have h2 : allocOp o = false := by have := h.2; simp only [Bool.not_eq_true'] at this; exact this
    have h3 : lateNo b lt o env' = false := by have hl : (!(lateNo b lt o env')) = true := hl; cases hh : lateNo b lt o env' with | false => rfl | true => (rw [hh] at hl; cases hl)
    show (cond (allocOp o) _ (cond (lateNo b lt o env') none (coreS call P ops o env' H own))) = _
    rw [h2, h3]
    exact hS

/-- Neither a block is read nor written. -/
def isMem (o : Oper) : Bool :=
  match o.op with
  | .load _ _ => true
  | .store _ _ _ => true
  | _ => false
theorem lateE_of {o : Oper} {env' : List (Nat × AV)} (h : isMem o = false) : lateE md o env' = true := by
  unfold lateE
  cases md with
  | plain => rfl
  | draw b lt mx =>
    cases lt with
    | none => rfl
    | some ws =>
      have : lateOk b ws o env' = true := by
        unfold lateOk
        unfold isMem at h
        split <;> first | rfl | (rename_i hh; rw [hh] at h; cases h)
      show (!(!(lateOk b ws o env'))) = true
      rw [this]; rfl

/-- Operations of which 'pureE' speaks go so in the machine. -/
theorem core_pure {call : CallA} {o : Oper} {env' : List (Nat × AV)} {own : List Loc} {v : AV} (hp : pureE P env o.op = some v) (h : EnvLe env env') : core call P ops o env' H own = some ⟨v, H, own, false⟩ := by
  have h1 := pureE_to h hp
  obtain ⟨dst, op, ty, pos, after, guard⟩ := o
  simp only at hp h1
  cases op
  case convert src dst' x =>
    unfold pureE at hp
    simp only at hp
    unfold core
    simp only
    cases hx : opE env x with
    | none => rw [hx] at hp; cases hp
    | some a =>
      rw [hx] at hp
      simp only at hp
      have e := h.opd hx
      have key : plainRes H own (convA P src dst' a) = some ⟨v, H, own, false⟩ := by rw [hp]; rfl
      unfold convA at hp
      split at hp
      · rename_i hs hd
        obtain ⟨s0, hs'⟩ : ∃ s0, P.underlying src = some s0 := ⟨_, hs⟩
        rw [e, hd, hs']
        cases s0 <;> exact key
      · rename_i hs hd
        obtain ⟨s0, hs'⟩ : ∃ s0, P.underlying src = some s0 := ⟨_, hs⟩
        rw [e, hd, hs']
        cases s0 <;> exact key
      · cases hp
  case call c =>
    obtain ⟨callee, args, at_⟩ := c
    cases callee with
    | builtin b =>
      cases b <;> first | (cases hp; done) | (unfold core; simp only [h1]; rfl)
    | value f => cases hp
    | invoke a b => cases hp
  all_goals first | (cases hp; done) | (unfold core; simp only [h1]; rfl)
end
end Go.Proofs.YtecdcnacjlcjoaaDoor.Am

/- Walks over the machine, third part: rules for operations. -/
namespace Go.Proofs.YtecdcnacjlcjoaaDoor.Am
set_option linter.unusedVariables false
set_option linter.unusedSimpArgs false

/-- A call ends in R, whatever the fuel, from some on. -/
def CallsR (P : Program) (K : Know) (f : FuncId) (args : List AV) (H : Hp) (cl : Cl) (R : AV → Hp → Cl → Prop) : Prop :=
  ∀ own, Owned [] cl own → ∃ x H' cl' own', R x H' cl' ∧ Owned [] cl' own' ∧ Ev fun n => callK P n K f args H own = some (x, H', own')
/-- A piece of a block, read. -/
def rdB (P : Program) (t : TypeId) (off : Nat) (e : TypeId) (cs : List AV) : Option AV :=
  match sizeT P t with
  | some n => cond (Nat.beq e LOOP) none (cond (Nat.ble (off + n) cs.length) (ofCells P t ((cs.drop off).take n)) none)
  | none => none
def stB (P : Program) (t : TypeId) (off : Nat) (b : Blk) (v : AV) : Bool :=
  match sizeT P t with
  | some n => !(Nat.beq b.e LOOP) && Nat.beq v.cells.length n && Nat.blt 0 n && Nat.ble (off + n) b.cs.length
  | none => false
def lateL (md : Md) (id : Nat) : Bool :=
  match md with
  | .plain => true
  | .draw b lt _ => match lt with
    | some ws => Nat.blt id b && !(ws.any (Nat.beq id))
    | none => true
def lateS (md : Md) (id : Nat) : Bool :=
  match md with
  | .plain => true
  | .draw b lt _ => match lt with
    | some ws => Nat.ble b id || ws.any (Nat.beq id)
    | none => true
/-- A list literal. -/
def bsE (P : Program) (e : TypeId) (len : Nat) (ps : List (Nat × AV)) : Option (List AV) :=
  match sizeT P e, zeroT P e with
  | some sz, some z => cond (Nat.ble (len * sz) 16777216 && Nat.blt 0 sz && Nat.beq z.length sz) (match fillA (fun i => some (i * sz, sz)) (rep len z) ps with
    | some cs => chop P e sz len cs
    | none => none) none
  | _, _ => none

section
variable {P : Program} {K : Know} {nt : Nat} {md : Md} {ops r : List Oper} {env : Env} {H : Hp} {sl : List Nat} {cl : Cl} {Q : K4}

theorem mem_ins {x y : Loc} : ∀ {l : List Loc}, y = x ∨ y ∈ l → y ∈ insL x l
  | [], h => by
    rcases h with rfl | h
    · exact List.mem_cons_self
    · cases h
  | z :: r, h => by
    unfold insL
    cases hlt : Loc.lt x z with
    | true =>
      simp only [cond_true]
      rcases h with rfl | h
      · exact List.mem_cons_self
      · exact List.mem_cons_of_mem _ h
    | false =>
      simp only [cond_false]
      cases hb : Loc.beq x z with
      | true =>
        simp only [cond_true]
        rcases h with rfl | h
        · have : y = z := by
            cases y <;> cases z <;> simp only [Loc.beq, Bool.and_eq_true] at hb
            · rw [Nat.eq_of_beq_eq_true hb]
            · cases hb
            · cases hb
            · rw [Nat.eq_of_beq_eq_true hb.1, Nat.eq_of_beq_eq_true hb.2]
          rw [this]; exact List.mem_cons_self
        · exact h
      | false =>
        simp only [cond_false]
        rcases h with rfl | h
        · exact List.mem_cons_of_mem _ (mem_ins (.inl rfl))
        · rcases List.mem_cons.1 h with rfl | h
          · exact List.mem_cons_self
          · exact List.mem_cons_of_mem _ (mem_ins (.inr h))
theorem mem_canon' : ∀ {l : List Loc} {x : Loc}, x ∈ l → x ∈ canon l
  | [], x, h => by cases h
  | y :: r, x, h => by
    show x ∈ insL y (canon r)
    rcases List.mem_cons.1 h with rfl | h
    · exact mem_ins (.inl rfl)
    · exact mem_ins (.inr (mem_canon' h))
theorem Owned.cells {own : List Loc} (h : Owned sl cl own) : Owned [] cl (canon (own.filter Loc.isCell)) :=
  ⟨fun s hs => (by cases hs), fun i o hp => mem_canon' (List.mem_filter.2 ⟨h.cell i o hp, rfl⟩)⟩
theorem Owned.back {cl' : Cl} {own own' : List Loc} (h : Owned sl cl own) (h' : Owned [] cl' own') : Owned sl cl' (own.filter (fun l => !l.isCell) ++ own'.filter Loc.isCell) :=
  ⟨fun s hs => List.mem_append_left _ (List.mem_filter.2 ⟨h.slot s hs, rfl⟩), fun i o hp => List.mem_append_right _ (List.mem_filter.2 ⟨h'.cell i o hp, rfl⟩)⟩

theorem coreM_of {n : Nat} {o : Oper} {st : St} {v : Res} (hy : yieldOp st.env o = none) (h : coreP (md.call P K n) P md.pre ops o st.env st.H st.own = some v) : coreM P K md ops n o st = some v := by
  unfold coreM
  cases md with
  | plain => simp only; rw [hy]; exact h
  | draw b lt mx => exact h
def isCallO (op : Op) : Bool :=
  match op with
  | .call { callee := .value _, .. } => true
  | _ => false
theorem noYield {o : Oper} {env' : List (Nat × AV)} (h : isCallO o.op = false) : yieldOp env' o = none := by
  unfold yieldOp
  unfold isCallO at h
  split <;> first | rfl | (rename_i hh; rw [hh] at h; cases h)

/-- Operations that neither read nor write cells. -/
theorem pureE_kind {op : Op} {v : AV} {d : Option Tmp} {ty : TypeId} {pos : String} {af : Array Edge} {g : Option (Nat × Bool)} (hp : pureE P env op = some v) : isCallO op = false ∧ dry P md ⟨d, op, ty, pos, af, g⟩ = true ∧ isMem ⟨d, op, ty, pos, af, g⟩ = false := by
  cases op
  case call c =>
    obtain ⟨callee, args, at_⟩ := c
    cases callee with
    | builtin b => cases b <;> first | (cases hp; done) | exact ⟨rfl, by cases md <;> rfl, rfl⟩
    | value f => cases hp
    | invoke a b => cases hp
  all_goals first | (cases hp; done) | exact ⟨rfl, by cases md <;> rfl, rfl⟩
theorem O_pure {sl' : List Nat} (v : AV) {d : Nat} {op : Op} {ty : TypeId} {pos : String} {af : Array Edge} {g : Option (Nat × Bool)} (hw : wantE ops env g = some true) (hp : pureE P env op = some v) (hd : Nat.blt d nt = true) (hsl : drp sl d = sl')
    (k : O P K nt md ops r ((d, v) :: env) H sl' cl Q) : O P K nt md ops (⟨some d, op, ty, pos, af, g⟩ :: r) env H sl cl Q := by
  subst hsl
  obtain ⟨h1, h2, h3⟩ := pureE_kind (md := md) (d := some d) (ty := ty) (pos := pos) (af := af) (g := g) hp
  refine O_step (g := false) rfl hw hd (fun st hs => ⟨st.own, false, hs.own, fun e => e, Ev.of fun n => coreM_of (noYield h1) ?_⟩) k
  rw [coreP_core h2 (lateE_of h3), hs.H]
  exact core_pure (o := ⟨some d, op, ty, pos, af, g⟩) hp hs.env

theorem dry_move {d : Option Tmp} {x : Operand} {ty : TypeId} {pos : String} {af : Array Edge} {g : Option (Nat × Bool)} : dry P md ⟨d, .move x, ty, pos, af, g⟩ = true := by cases md <;> rfl
theorem dry_assign {d : Option Tmp} {x : Operand} {ty : TypeId} {pos : String} {af : Array Edge} {g : Option (Nat × Bool)} : dry P md ⟨d, .assign x, ty, pos, af, g⟩ = true := by cases md <;> rfl
theorem dry_load {d : Option Tmp} {t : TypeId} {x : Operand} {ty : TypeId} {pos : String} {af : Array Edge} {g : Option (Nat × Bool)} : dry P md ⟨d, .load t x, ty, pos, af, g⟩ = true := by cases md <;> rfl
theorem dry_store {d : Option Tmp} {t : TypeId} {a x : Operand} {ty : TypeId} {pos : String} {af : Array Edge} {g : Option (Nat × Bool)} : dry P md ⟨d, .store t a x, ty, pos, af, g⟩ = true := by cases md <;> rfl
theorem dry_call {d : Option Tmp} {f : Operand} {args : Array Operand} {at_ : Array TypeId} {ty : TypeId} {pos : String} {af : Array Edge} {g : Option (Nat × Bool)} : dry P md ⟨d, .call { callee := .value f, args := args, argTypes := at_ }, ty, pos, af, g⟩ = true := by cases md <;> rfl
theorem dry_build {d : Option Tmp} {t : TypeId} {len : Nat} {parts : Array (Nat × Operand)} {ty : TypeId} {pos : String} {af : Array Edge} {g : Option (Nat × Bool)} : dry P md ⟨d, .buildSlice t len parts, ty, pos, af, g⟩ = true := by cases md <;> rfl
/-- A slot's value, moved. -/
theorem O_move {sl' : List Nat} (v : AV) {d s : Nat} {ty : TypeId} {pos : String} {af : Array Edge} {g : Option (Nat × Bool)} (hw : wantE ops env g = some true) (hx : lookE env s = some v) (ha : appSrc ops d = false) (hd : Nat.blt d nt = true) (hsl : drp sl d = sl')
    (k : O P K nt md ops r ((d, v) :: env) H sl' cl Q) : O P K nt md ops (⟨some d, .move (.tmp s), ty, pos, af, g⟩ :: r) env H sl cl Q := by
  subst hsl
  refine O_step (g := false) rfl hw hd (fun st hs => ⟨st.own, false, hs.own, fun e => e, Ev.of fun n => coreM_of (noYield rfl) ?_⟩) k
  rw [coreP_core dry_move (lateE_of rfl), hs.H]
  show some (cond (owns st.own (.slot s) && appSrc ops d) _ _) = _
  rw [ha, Bool.and_false, hs.env s v hx]
  rfl
theorem O_moveO {sl' : List Nat} (v : AV) {d s : Nat} {ty : TypeId} {pos : String} {af : Array Edge} {g : Option (Nat × Bool)} (hw : wantE ops env g = some true) (hx : lookE env s = some v) (ha : appSrc ops d = true) (ho : has sl s = true) (hd : Nat.blt d nt = true) (hsl : d :: drp (drp sl s) d = sl')
    (k : O P K nt md ops r ((d, v) :: env) H sl' cl Q) : O P K nt md ops (⟨some d, .move (.tmp s), ty, pos, af, g⟩ :: r) env H sl cl Q := by
  subst hsl
  refine O_step (g := true) rfl hw hd (fun st hs => ⟨drop st.own (.slot s), true, hs.own.drop s, fun e => e, Ev.of fun n => coreM_of (noYield rfl) ?_⟩) k
  rw [coreP_core dry_move (lateE_of rfl), hs.H]
  show some (cond (owns st.own (.slot s) && appSrc ops d) _ _) = _
  have : owns st.own (.slot s) = true := owns_iff.2 (hs.own.slot s (has_iff.1 ho))
  rw [ha, this, hs.env s v hx]
  rfl
def isSlot : Operand → Bool
  | .tmp _ => true
  | _ => false
theorem O_moveC {sl' : List Nat} (v : AV) {d : Nat} {x : Operand} {ty : TypeId} {pos : String} {af : Array Edge} {g : Option (Nat × Bool)} (hw : wantE ops env g = some true) (hx : opE env x = some v) (hn : isSlot x = false) (hd : Nat.blt d nt = true) (hsl : drp sl d = sl')
    (k : O P K nt md ops r ((d, v) :: env) H sl' cl Q) : O P K nt md ops (⟨some d, .move x, ty, pos, af, g⟩ :: r) env H sl cl Q := by
  subst hsl
  refine O_step (g := false) rfl hw hd (fun st hs => ⟨st.own, false, hs.own, fun e => e, Ev.of fun n => coreM_of (noYield rfl) ?_⟩) k
  rw [coreP_core dry_move (lateE_of rfl), hs.H]
  cases x with
  | tmp t => cases hn
  | const c => show plainRes H st.own (evalO st.env (.const c)) = _; rw [EnvLe.opd hs.env hx]; rfl
  | global c => cases hx
  | func c => show plainRes H st.own (evalO st.env (.func c)) = _; rw [EnvLe.opd hs.env hx]; rfl
/-- A value is put into a variable. -/
theorem O_asg {sl' : List Nat} (v : AV) {d s : Nat} {ty : TypeId} {pos : String} {af : Array Edge} {g : Option (Nat × Bool)} (hw : wantE ops env g = some true) (hx : lookE env s = some v) (hd : Nat.blt d nt = true) (hsl : putSl (drp sl s) (has sl s) d = sl')
    (k : O P K nt md ops r ((d, v) :: env) H sl' cl Q) : O P K nt md ops (⟨some d, .assign (.tmp s), ty, pos, af, g⟩ :: r) env H sl cl Q := by
  subst hsl
  refine O_step (g := has sl s) rfl hw hd (fun st hs => ?_) k
  refine ⟨cond (owns st.own (.slot s)) (drop st.own (.slot s)) st.own, owns st.own (.slot s), ?_, fun e => owns_iff.2 (hs.own.slot s (has_iff.1 e)), Ev.of fun n => coreM_of (noYield rfl) ?_⟩
  · cases owns st.own (.slot s) with
    | true => exact hs.own.drop s
    | false => exact hs.own.sub (fun q hq => drp_sub hq) (fun p hp => hp)
  · rw [coreP_core dry_assign (lateE_of rfl), hs.H]
    unfold core
    simp only
    rw [EnvLe.opd hs.env (x := .tmp s) hx]
    simp only
    cases owns st.own (.slot s) <;> rfl
theorem O_asgC {sl' : List Nat} (v : AV) {d : Nat} {x : Operand} {ty : TypeId} {pos : String} {af : Array Edge} {g : Option (Nat × Bool)} (hw : wantE ops env g = some true) (hx : opE env x = some v) (hn : isSlot x = false) (hd : Nat.blt d nt = true) (hsl : putSl sl (isNils v) d = sl')
    (k : O P K nt md ops r ((d, v) :: env) H sl' cl Q) : O P K nt md ops (⟨some d, .assign x, ty, pos, af, g⟩ :: r) env H sl cl Q := by
  subst hsl
  refine O_step (g := isNils v) rfl hw hd (fun st hs => ⟨st.own, isNils v, hs.own, fun e => e, Ev.of fun n => coreM_of (noYield rfl) ?_⟩) k
  rw [coreP_core dry_assign (lateE_of rfl), hs.H]
  have hx' := EnvLe.opd hs.env hx
  unfold core
  simp only
  rw [hx']
  cases x with
  | tmp t => cases hn
  | _ => rfl

/-! ### blocks -/
theorem lateE_load {id off : Nat} {d : Option Tmp} {t : TypeId} {x : Operand} {ty : TypeId} {pos : String} {af : Array Edge} {g : Option (Nat × Bool)} {env' : List (Nat × AV)} (h : lateL md id = true) (hx : evalO env' x = some (.ptr id off)) : lateE md ⟨d, .load t x, ty, pos, af, g⟩ env' = true := by
  cases md with
  | plain => rfl
  | draw b lt mx =>
    cases lt with
    | none => rfl
    | some ws =>
      have h : (Nat.blt id b && !(ws.any (Nat.beq id))) = true := h
      unfold lateE lateNo lateOk
      simp only [hx]
      rw [h]; rfl
theorem lateE_loadE {y : AV} {d : Option Tmp} {t : TypeId} {x : Operand} {ty : TypeId} {pos : String} {af : Array Edge} {g : Option (Nat × Bool)} {env' : List (Nat × AV)} (hy : ∀ i o, y ≠ .ptr i o) (hx : evalO env' x = some y) : lateE md ⟨d, .load t x, ty, pos, af, g⟩ env' = true := by
  cases md with
  | plain => rfl
  | draw b lt mx =>
    cases lt with
    | none => rfl
    | some ws =>
      unfold lateE lateNo lateOk
      simp only [hx]
      cases y <;> first | rfl | exact absurd rfl (hy _ _)
theorem lateE_store {id off : Nat} {d : Option Tmp} {t : TypeId} {a x : Operand} {ty : TypeId} {pos : String} {af : Array Edge} {g : Option (Nat × Bool)} {env' : List (Nat × AV)} (h : lateS md id = true) (hx : evalO env' a = some (.ptr id off)) : lateE md ⟨d, .store t a x, ty, pos, af, g⟩ env' = true := by
  cases md with
  | plain => rfl
  | draw b lt mx =>
    cases lt with
    | none => rfl
    | some ws =>
      have h : (Nat.ble b id || ws.any (Nat.beq id)) = true := h
      unfold lateE lateNo lateOk
      simp only [hx]
      rw [h]; rfl
theorem rdB_to {t : TypeId} {id off : Nat} {b : Blk} {v : AV} (hb : H[id]? = some (some b)) (h : rdB P t off b.e b.cs = some v) : loadA P H t (.ptr id off) = some v := by
  unfold rdB at h
  unfold loadA
  cases hs : sizeT P t with
  | none => rw [hs] at h; cases h
  | some n =>
    rw [hs] at h
    simp only at h ⊢
    cases he : Nat.beq b.e LOOP with
    | true => rw [he] at h; cases h
    | false =>
      rw [he] at h
      cases hle : Nat.ble (off + n) b.cs.length with
      | false => rw [hle] at h; cases h
      | true =>
        rw [hle] at h
        unfold readCells
        rw [hb]
        simp only
        rw [if_pos ⟨he, Nat.ble_eq.mp hle⟩]
        exact h
/-- A load. What is loaded for an 'append' is taken. -/
theorem O_load {sl' : List Nat} {cl' : Cl} (v : AV) {d : Nat} {t : TypeId} {x : Operand} {id off : Nat} {b : Blk} {ty : TypeId} {pos : String} {af : Array Edge} {g : Option (Nat × Bool)} (hw : wantE ops env g = some true) (hx : opE env x = some (.ptr id off)) (hb : H[id]? = some (some b)) (hv : rdB P t off b.e b.cs = some v)
    (hl : lateL md id = true) (hd : Nat.blt d nt = true) (hsl : drp sl d = sl') (hcl : ∀ p, p ∈ cl' → p ∈ cl ∧ (appSrc ops d = true → p ≠ (id, off)))
    (k : O P K nt md ops r ((d, v) :: env) H sl' cl' Q) : O P K nt md ops (⟨some d, .load t x, ty, pos, af, g⟩ :: r) env H sl cl Q := by
  subst hsl
  refine O_step (g := false) rfl hw hd (fun st hs => ?_) k
  have hx' := EnvLe.opd hs.env hx
  refine ⟨cond (owns st.own (.cell id off) && appSrc ops d && (sizeT P t == some 1) && (isAggT P t == some false)) (drop st.own (.cell id off)) st.own, (owns st.own (.cell id off) && appSrc ops d && (sizeT P t == some 1) && (isAggT P t == some false)), ?_, (fun e => by cases e), Ev.of fun n => coreM_of (noYield rfl) ?_⟩
  · cases hc : (owns st.own (.cell id off) && appSrc ops d && (sizeT P t == some 1) && (isAggT P t == some false)) with
    | false => exact hs.own.sub (fun q hq => hq) (fun p hp => (hcl p hp).1)
    | true =>
      rw [Bool.and_eq_true, Bool.and_eq_true, Bool.and_eq_true] at hc
      refine ⟨fun q hq => mem_drop.2 ⟨hs.own.slot q hq, fun e => by cases e⟩, fun i o hp => mem_drop.2 ⟨hs.own.cell i o (hcl _ hp).1, fun e => ?_⟩⟩
      injection e with e1 e2
      exact (hcl _ hp).2 hc.1.1.2 (by rw [e1, e2])
  · rw [coreP_core dry_load (lateE_load hl hx'), hs.H]
    unfold core
    simp only
    rw [hx']
    simp only
    rw [rdB_to hb hv]
    simp only
    show some (cond (owns st.own (.cell id off) && appSrc ops d && (sizeT P t == some 1) && (isAggT P t == some false)) _ _) = _
    cases (owns st.own (.cell id off) && appSrc ops d && (sizeT P t == some 1) && (isAggT P t == some false)) <;> rfl
theorem O_loadO {sl' : List Nat} {cl' : Cl} (v : AV) {d : Nat} {t : TypeId} {x : Operand} {id off : Nat} {b : Blk} {ty : TypeId} {pos : String} {af : Array Edge} {g : Option (Nat × Bool)} (hw : wantE ops env g = some true) (hx : opE env x = some (.ptr id off)) (hb : H[id]? = some (some b)) (hv : rdB P t off b.e b.cs = some v)
    (hl : lateL md id = true) (hd : Nat.blt d nt = true) (hsl : d :: drp sl d = sl') (ha : (appSrc ops d && (sizeT P t == some 1) && (isAggT P t == some false)) = true) (ho : (id, off) ∈ cl) (hcl : ∀ p, p ∈ cl' → p ∈ cl ∧ p ≠ (id, off))
    (k : O P K nt md ops r ((d, v) :: env) H sl' cl' Q) : O P K nt md ops (⟨some d, .load t x, ty, pos, af, g⟩ :: r) env H sl cl Q := by
  subst hsl
  refine O_step (g := true) rfl hw hd (fun st hs => ?_) k
  have hx' := EnvLe.opd hs.env hx
  have hown : owns st.own (.cell id off) = true := owns_iff.2 (hs.own.cell id off ho)
  refine ⟨drop st.own (.cell id off), true, ?_, fun e => e, Ev.of fun n => coreM_of (noYield rfl) ?_⟩
  · refine ⟨fun q hq => mem_drop.2 ⟨hs.own.slot q hq, fun e => by cases e⟩, fun i o hp => mem_drop.2 ⟨hs.own.cell i o (hcl _ hp).1, fun e => ?_⟩⟩
    injection e with e1 e2
    exact (hcl _ hp).2 (by rw [e1, e2])
  · rw [coreP_core dry_load (lateE_load hl hx'), hs.H]
    unfold core
    simp only
    rw [hx']
    simp only
    rw [rdB_to hb hv]
    simp only
    have e : (owns st.own (.cell id off) && appSrc ops d && (sizeT P t == some 1) && (isAggT P t == some false)) = true := by
      rw [hown, Bool.true_and]; exact ha
    show some (cond (owns st.own (.cell id off) && appSrc ops d && (sizeT P t == some 1) && (isAggT P t == some false)) _ _) = _
    rw [e]
    rfl
/-- A load of a list's element. -/
theorem O_loadE {sl' : List Nat} (v : AV) {d : Nat} {t : TypeId} {x : Operand} {cs : List AV} {off : Nat} {ty : TypeId} {pos : String} {af : Array Edge} {g : Option (Nat × Bool)} (hw : wantE ops env g = some true) (hx : opE env x = some (.ept cs off)) (hv : loadA P [] t (.ept cs off) = some v)
    (hd : Nat.blt d nt = true) (hsl : drp sl d = sl')
    (k : O P K nt md ops r ((d, v) :: env) H sl' cl Q) : O P K nt md ops (⟨some d, .load t x, ty, pos, af, g⟩ :: r) env H sl cl Q := by
  subst hsl
  refine O_step (g := false) rfl hw hd (fun st hs => ⟨st.own, false, hs.own, fun e => e, Ev.of fun n => coreM_of (noYield rfl) ?_⟩) k
  have hx' := EnvLe.opd hs.env hx
  rw [coreP_core dry_load (lateE_loadE (fun i o e => by cases e) hx'), hs.H]
  unfold core
  simp only
  rw [hx']
  simp only
  have : loadA P H t (.ept cs off) = some v := hv
  rw [this]
/-- A block is made. -/
theorem O_alloc {sl' : List Nat} {d : Nat} {e : TypeId} (z : List AV) {ty : TypeId} {pos : String} {af : Array Edge} {g : Option (Nat × Bool)} (hw : wantE ops env g = some true) (hz : zeroT P e = some z) (he : Nat.beq e LOOP = false) (hd : Nat.blt d nt = true) (hsl : drp sl d = sl')
    (k : ∀ id H', H.length = id → H ++ [some ⟨e, z⟩] = H' → O P K nt .plain ops r ((d, .ptr id 0) :: env) H' sl' cl Q) : O P K nt .plain ops (⟨some d, .alloc e, ty, pos, af, g⟩ :: r) env H sl cl Q := by
  subst hsl
  refine O_step (g := false) rfl hw hd (fun st hs => ⟨st.own, false, hs.own, fun e => e, Ev.of fun n => coreM_of (noYield rfl) ?_⟩) (k _ _ rfl rfl)
  rw [coreP_core (by rfl) (by rfl), hs.H]
  unfold core
  simp only
  rw [hz]
  simp only
  rw [if_pos he]
theorem O_box {sl' : List Nat} {d : Nat} {e : TypeId} {x : Operand} (v : AV) {ty : TypeId} {pos : String} {af : Array Edge} {g : Option (Nat × Bool)} (hw : wantE ops env g = some true) (hx : opE env x = some v) (he : Nat.beq e LOOP = false) (hn : Nat.blt 0 v.cells.length = true) (hd : Nat.blt d nt = true) (hsl : drp sl d = sl')
    (k : ∀ id H', H.length = id → H ++ [some ⟨e, v.cells⟩] = H' → O P K nt .plain ops r ((d, .ptr id 0) :: env) H' sl' cl Q) : O P K nt .plain ops (⟨some d, .box e x, ty, pos, af, g⟩ :: r) env H sl cl Q := by
  subst hsl
  refine O_step (g := false) rfl hw hd (fun st hs => ⟨st.own, false, hs.own, fun e => e, Ev.of fun n => coreM_of (noYield rfl) ?_⟩) (k _ _ rfl rfl)
  rw [coreP_core (by rfl) (by rfl), hs.H]
  unfold core
  simp only
  rw [EnvLe.opd hs.env hx]
  simp only
  rw [if_pos ⟨he, Nat.blt_eq.mp hn⟩]
theorem O_allocD {sl' : List Nat} {d : Nat} {base q : Nat} {lt : Option (List Nat)} {mx : Bool} {e : TypeId} (z : List AV) {ty : TypeId} {pos : String} {af : Array Edge} {g : Option (Nat × Bool)} (hw : wantE ops env g = some true) (hz : zeroT P e = some z) (he : Nat.beq e LOOP = false) (hq : rank ops d = some q) (hn : H[base + q]? = some none) (hd : Nat.blt d nt = true) (hsl : drp sl d = sl')
    (k : ∀ H', H.set (base + q) (some ⟨e, z⟩) = H' → O P K nt (.draw base lt mx) ops r ((d, .ptr (base + q) 0) :: env) H' sl' cl Q) : O P K nt (.draw base lt mx) ops (⟨some d, .alloc e, ty, pos, af, g⟩ :: r) env H sl cl Q := by
  subst hsl
  refine O_step (g := false) rfl hw hd (fun st hs => ⟨st.own, false, hs.own, fun e => e, Ev.of fun n => coreM_of (noYield rfl) ?_⟩) (k _ rfl)
  show (match rank ops d with | some k => newAt P _ st.env st.H st.own (base + k) | none => none) = _
  rw [hq, hs.H]
  simp only
  unfold newAt
  rw [hn]
  simp only
  rw [hz]
  simp only
  rw [if_pos he]
theorem stB_to {t : TypeId} {id off : Nat} {b : Blk} {v : AV} (hb : H[id]? = some (some b)) (h : stB P t off b v = true) : storeA P H t (.ptr id off) v = some (H.set id (some ⟨b.e, splice b.cs off v.cells⟩)) := by
  unfold stB at h
  unfold storeA
  cases hs : sizeT P t with
  | none => rw [hs] at h; cases h
  | some n =>
    rw [hs] at h
    simp only [Bool.and_eq_true, Bool.not_eq_true'] at h
    simp only
    rw [hb]
    simp only
    rw [if_pos ⟨h.1.1.1, Nat.eq_of_beq_eq_true h.1.1.2, Nat.blt_eq.mp h.1.2, Nat.ble_eq.mp h.2⟩]
/-- A store. -/
theorem O_store {sl' : List Nat} {cl' : Cl} {t : TypeId} {a x : Operand} {id off : Nat} {b : Blk} (v : AV) {ty : TypeId} {pos : String} {af : Array Edge} {g : Option (Nat × Bool)} (hw : wantE ops env g = some true) (ha : opE env a = some (.ptr id off)) (hx : opE env x = some v) (hlo : Nat.ble K.lo id = true) (hb : H[id]? = some (some b)) (hs : stB P t off b v = true) (hl : lateS md id = true)
    (hsl : ∀ q, q ∈ sl' → q ∈ sl ∧ (v.isOne = true → x ≠ .tmp q)) (hcl : ∀ i o, (i, o) ∈ cl' → (i = id ∧ o = off ∧ v.isOne = true ∧ ∃ s, x = .tmp s ∧ s ∈ sl) ∨ ((i, o) ∈ cl ∧ ¬ (i = id ∧ off ≤ o ∧ o < off + v.cells.length)))
    (k : ∀ H', H.set id (some ⟨b.e, splice b.cs off v.cells⟩) = H' → O P K nt md ops r env H' sl' cl' Q) : O P K nt md ops (⟨none, .store t a x, ty, pos, af, g⟩ :: r) env H sl cl Q := by
  refine O_step0 (v := .tup []) rfl hw (fun st hst => ?_) (k _ rfl)
  have ha' := EnvLe.opd hst.env ha
  have hx' := EnvLe.opd hst.env hx
  have hcell : ∀ i o, (i, o) ∈ cl → ¬ (i = id ∧ off ≤ o ∧ o < off + v.cells.length) → Loc.cell i o ∈ dropCells st.own id off v.cells.length := by
    intro i o h1 h2
    unfold dropCells
    refine List.mem_filter.2 ⟨hst.own.cell i o h1, ?_⟩
    simp only [Bool.not_eq_true', Bool.and_eq_false_iff]
    by_cases g1 : i = id
    · by_cases g2 : off ≤ o
      · refine .inr ?_
        cases hb : Nat.blt o (off + v.cells.length) with
        | false => rfl
        | true => exact absurd ⟨g1, g2, Nat.blt_eq.mp hb⟩ h2
      · refine .inl (.inr ?_)
        cases hb : Nat.ble off o with
        | false => rfl
        | true => exact absurd (Nat.ble_eq.mp hb) g2
    · refine .inl (.inl ?_)
      cases hb : Nat.beq i id with
      | false => rfl
      | true => exact absurd (Nat.eq_of_beq_eq_true hb) g1
  have hslot : ∀ q, q ∈ sl → Loc.slot q ∈ dropCells st.own id off v.cells.length := by
    intro q hq
    unfold dropCells
    exact List.mem_filter.2 ⟨hst.own.slot q hq, rfl⟩
  refine ⟨match (generalizing := false) x with
           | .tmp s => cond (owns st.own (.slot s) && v.isOne) (give (drop (dropCells st.own id off v.cells.length) (.slot s)) (.cell id off)) (dropCells st.own id off v.cells.length)
           | _ => dropCells st.own id off v.cells.length, false, ?_, Ev.of fun n => coreM_of (noYield rfl) ?_⟩
  · have triv : (∀ i o, (i, o) ∈ cl' → (i, o) ∈ cl ∧ ¬ (i = id ∧ off ≤ o ∧ o < off + v.cells.length)) → Owned sl' cl' (dropCells st.own id off v.cells.length) := fun h => ⟨fun q hq => hslot q (hsl q hq).1, fun i o hp => hcell i o (h i o hp).1 (h i o hp).2⟩
    have noTmp : (∀ s, x ≠ .tmp s) → Owned sl' cl' (dropCells st.own id off v.cells.length) := fun hn => triv fun i o hp => by
      rcases hcl i o hp with ⟨_, _, _, s, hs, _⟩ | h
      · exact absurd hs (hn s)
      · exact h
    cases x with
    | tmp s =>
      simp only
      cases hc : (owns st.own (.slot s) && v.isOne) with
      | false =>
        refine triv fun i o hp => ?_
        rcases hcl i o hp with ⟨_, _, h1, s', hs, hm⟩ | h
        · injection hs with hs; subst hs
          rw [owns_iff.2 (hst.own.slot s hm), h1] at hc; cases hc
        · exact h
      | true =>
        rw [Bool.and_eq_true] at hc
        simp only [cond_true]
        refine ⟨fun q hq => mem_give.2 (.inr ⟨mem_drop.2 ⟨hslot q (hsl q hq).1, fun e => ?_⟩, fun e => by cases e⟩), fun i o hp => ?_⟩
        · injection e with e; exact (hsl q hq).2 hc.2 (by rw [e])
        · rcases hcl i o hp with ⟨rfl, rfl, _⟩ | ⟨h1, h2⟩
          · exact mem_give.2 (.inl rfl)
          · by_cases e : Loc.cell i o = Loc.cell id off
            · exact mem_give.2 (.inl e)
            · exact mem_give.2 (.inr ⟨mem_drop.2 ⟨hcell i o h1 h2, fun e => by cases e⟩, e⟩)
    | const c => exact noTmp (fun s e => by cases e)
    | global c => exact noTmp (fun s e => by cases e)
    | func c => exact noTmp (fun s e => by cases e)
  · rw [coreP_core dry_store (lateE_store hl ha'), hst.H]
    unfold core
    simp only
    rw [ha', hx']
    simp only
    have hsl' : storeL (md.call P K n).lo P H t (.ptr id off) v = some (H.set id (some ⟨b.e, splice b.cs off v.cells⟩)) := by
      unfold storeL
      simp only
      rw [md.call_lo, hlo]
      exact stB_to hb hs
    rw [hsl']
    rfl

/-! ### lists -/
theorem O_bslice {sl' : List Nat} {d : Nat} {t e : TypeId} {len : Nat} {parts : Array (Nat × Operand)} (ps : List (Nat × AV)) (xs : List AV) {ty : TypeId} {pos : String} {af : Array Edge} {g : Option (Nat × Bool)} (hw : wantE ops env g = some true) (hu : P.underlying t = some (.slice e)) (hp : partsE env parts.toList = some ps) (hb : bsE P e len ps = some xs) (hd : Nat.blt d nt = true) (hsl : d :: drp sl d = sl')
    (k : O P K nt md ops r ((d, .lst e xs []) :: env) H sl' cl Q) : O P K nt md ops (⟨some d, .buildSlice t len parts, ty, pos, af, g⟩ :: r) env H sl cl Q := by
  subst hsl
  refine O_step (g := true) rfl hw hd (fun st hs => ⟨st.own, true, hs.own, fun e => e, Ev.of fun n => coreM_of (noYield rfl) ?_⟩) k
  rw [coreP_core dry_build (lateE_of rfl), hs.H]
  unfold core
  simp only
  rw [hu, EnvLe.parts hs.env hp]
  simp only
  unfold bsE at hb
  split at hb
  · rename_i sz z h1 h2
    rw [h1, h2]
    simp only
    cases hc : (Nat.ble (len * sz) 16777216 && Nat.blt 0 sz && Nat.beq z.length sz) with
    | false => rw [hc] at hb; cases hb
    | true =>
      rw [hc] at hb
      simp only [Bool.and_eq_true] at hc
      rw [if_pos ⟨Nat.ble_eq.mp hc.1.1, Nat.blt_eq.mp hc.1.2, Nat.eq_of_beq_eq_true hc.2⟩]
      simp only [cond_true] at hb
      split at hb
      · rename_i cs hf
        rw [hf]
        simp only
        rw [hb]
      · cases hb
  · cases hb
/-- Of a list, appended to. -/
theorem O_append {sl' : List Nat} {d s : Nat} {y : Operand} {args : Array Operand} {at_ : Array TypeId} {ts tx e : TypeId} {xs : List AV} {b : AV} (ys : List AV) {i : TypeInfo} {z : List AV} {ty : TypeId} {pos : String} {af : Array Edge} {g : Option (Nat × Bool)} (hw : wantE ops env g = some true)
    (har : args.toList = [.tmp s, y]) (hat : at_.toList = [ts, tx]) (hu : P.underlying ts = some (.slice e)) (hx : lookE env s = some (.lst e xs [])) (hy : opE env y = some b) (ht : tailA P e ts tx b = some ys) (hi : P.info? e = some i) (hz : zeroT P e = some z)
    (ho : has sl s = true) (hm : (xs.length + ys.length) * i.bytes ≤ 140737488355328) (hm2 : xs.length + ys.length ≤ 140737488355328) (hsz : Nat.blt 0 i.size = true) (hzs : Nat.beq z.length i.size = true) (hmut : slElem P ⟨some d, .call { callee := .builtin .append, args := args, argTypes := at_ }, ty, pos, af, g⟩ = none) (hd : Nat.blt d nt = true) (hsl : d :: drp (drp sl s) d = sl')
    (k : O P K nt md ops r ((d, .lst e (xs ++ ys) []) :: env) H sl' cl Q) : O P K nt md ops (⟨some d, .call { callee := .builtin .append, args := args, argTypes := at_ }, ty, pos, af, g⟩ :: r) env H sl cl Q := by
  subst hsl
  refine O_step (g := true) rfl hw hd (fun st hs => ⟨drop st.own (.slot s), true, hs.own.drop s, fun e => e, Ev.of fun n => coreM_of (noYield rfl) ?_⟩) k
  rw [coreP_core (by unfold dry; rw [hmut]; cases md <;> rfl) (lateE_of rfl), hs.H]
  unfold core
  simp only
  rw [har, hat]
  simp only
  unfold appendA
  rw [hu, EnvLe.opd hs.env (x := .tmp s) hx, EnvLe.opd hs.env hy]
  simp only
  rw [ht, hi, hz]
  simp only
  rw [if_pos ⟨owns_iff.2 (hs.own.slot s (has_iff.1 ho)), trivial, hm, hm2, Nat.blt_eq.mp hsz, Nat.eq_of_beq_eq_true hzs⟩]
theorem dropO_sub {own : List Loc} {x : Operand} (h : Owned sl cl own) (hsl : ∀ q, q ∈ sl → x ≠ .tmp q) : Owned sl cl (dropO own x) := by
  cases x with
  | tmp t => exact ⟨fun q hq => mem_drop.2 ⟨h.slot q hq, fun e => by injection e with e; exact hsl q hq (by rw [e])⟩, fun i o hp => mem_drop.2 ⟨h.cell i o hp, fun e => by cases e⟩⟩
  | _ => exact h
theorem O_appendN {sl' : List Nat} {d : Nat} {x y : Operand} {args : Array Operand} {at_ : Array TypeId} {ts tx e : TypeId} {b : AV} (ys : List AV) {i : TypeInfo} {z : List AV} {ty : TypeId} {pos : String} {af : Array Edge} {g : Option (Nat × Bool)} (hw : wantE ops env g = some true)
    (har : args.toList = [x, y]) (hat : at_.toList = [ts, tx]) (hu : P.underlying ts = some (.slice e)) (hx : opE env x = some .nils) (hy : opE env y = some b) (ht : tailA P e ts tx b = some ys) (hi : P.info? e = some i) (hz : zeroT P e = some z)
    (hm : ys.length * i.bytes ≤ 140737488355328) (hm2 : ys.length ≤ 140737488355328) (hsz : Nat.blt 0 i.size = true) (hzs : Nat.beq z.length i.size = true) (hmut : slElem P ⟨some d, .call { callee := .builtin .append, args := args, argTypes := at_ }, ty, pos, af, g⟩ = none) (hd : Nat.blt d nt = true) (hsl : ∀ q, q ∈ sl' → q = d ∨ (q ∈ sl ∧ x ≠ .tmp q ∧ q ≠ d))
    (k : O P K nt md ops r ((d, .lst e ys []) :: env) H sl' cl Q) : O P K nt md ops (⟨some d, .call { callee := .builtin .append, args := args, argTypes := at_ }, ty, pos, af, g⟩ :: r) env H sl cl Q := by
  have k' : O P K nt md ops r ((d, .lst e ys []) :: env) H (putSl (sl'.filter fun q => !(Nat.beq d q)) true d) cl Q := by
    refine ⟨fun st hs => k.to st ⟨hs.env, hs.H, hs.own.sub (fun q hq => ?_) (fun p hp => hp)⟩⟩
    by_cases e : q = d
    · subst e; exact List.mem_cons_self
    · refine List.mem_cons_of_mem _ (mem_drp.2 ⟨mem_drp.2 ⟨hq, fun e' => e e'.symm⟩, fun e' => e e'.symm⟩)
  refine O_step (g := true) rfl hw hd (fun st hs => ⟨dropO st.own x, true, dropO_sub (hs.own.sub (fun q hq => ?_) (fun p hp => hp)) (fun q hq => ?_), fun e => e, Ev.of fun n => coreM_of (noYield rfl) ?_⟩) k'
  · have hq := mem_drp.1 hq
    rcases hsl q hq.1 with e | h
    · exact absurd e.symm hq.2
    · exact h.1
  · have hq := mem_drp.1 hq
    rcases hsl q hq.1 with e | h
    · exact absurd e.symm hq.2
    · exact h.2.1
  · rw [coreP_core (by unfold dry; rw [hmut]; cases md <;> rfl) (lateE_of rfl), hs.H]
    unfold core
    simp only
    rw [har, hat]
    simp only
    unfold appendA
    rw [hu, EnvLe.opd hs.env hx, EnvLe.opd hs.env hy]
    simp only
    rw [ht, hi, hz]
    simp only
    rw [if_pos ⟨hm, hm2, Nat.blt_eq.mp hsz, Nat.eq_of_beq_eq_true hzs⟩]

/-! ### calls -/
/-- A call, by what it comes to in the machine. -/
theorem O_callM {o : Oper} {vs : List AV} {gn : FuncId} {R : AV → Hp → Cl → Prop} (hw : wantE ops env o.guard = some true) (hab : md.above K H = true) (hd : (match o.dst with | some d => Nat.blt d nt | none => true) = true)
    (hm : ∀ st n x H' own', Sm env H sl cl st → callK P n (md.know K H) gn vs H (canon (st.own.filter Loc.isCell)) = some (x, H', own') → coreM P K md ops n o st = some ⟨x, H', st.own.filter (fun l => !l.isCell) ++ own'.filter Loc.isCell, false⟩)
    (hc : CallsR P (md.know K H) gn vs H cl R)
    (k : ∀ x H' cl', R x H' cl' → O P K nt md ops r (match o.dst with | some d => (d, x) :: env | none => env) H' (match o.dst with | some d => drp sl d | none => sl) cl' Q) : O P K nt md ops (o :: r) env H sl cl Q := by
  refine ⟨fun st hs => ?_⟩
  obtain ⟨x, H', cl', own', h1, h2, h3⟩ := hc _ hs.own.cells
  cases hdst : o.dst with
  | none =>
    have hk : O P K nt md ops r (match o.dst with | some d => (d, x) :: env | none => env) H' (match o.dst with | some d => drp sl d | none => sl) cl' Q := k x H' cl' h1
    rw [hdst] at hk
    obtain ⟨env1, H1, sl1, cl1, st1, q1, q2, q3⟩ := hk.to ⟨st.env, H', st.own.filter (fun l => !l.isCell) ++ own'.filter Loc.isCell⟩ ⟨hs.env, rfl, hs.own.back h2⟩
    refine ⟨env1, H1, sl1, cl1, st1, q1, q2, (h3.both q3).mono fun n hn => ?_⟩
    unfold runM
    rw [stepM_core (wantE_to hs.env hw) (hm st n x H' own' hs hn.1), hdst]
    exact hn.2
  | some d =>
    have hk : O P K nt md ops r (match o.dst with | some d => (d, x) :: env | none => env) H' (match o.dst with | some d => drp sl d | none => sl) cl' Q := k x H' cl' h1
    rw [hdst] at hk hd
    obtain ⟨env1, H1, sl1, cl1, st1, q1, q2, q3⟩ := hk.to _ (sm_put (g := false) (g' := false) hs (hs.own.back h2) (fun e => e))
    refine ⟨env1, H1, sl1, cl1, st1, q1, q2, (h3.both q3).mono fun n hn => ?_⟩
    unfold runM
    rw [stepM_core (wantE_to hs.env hw) (hm st n x H' own' hs hn.1), hdst]
    unfold Res.put
    simp only
    rw [if_pos (Nat.blt_eq.mp hd)]
    exact hn.2
theorem callM_value {f : Operand} {gn : FuncId} {cap : List AV} {args : Array Operand} {at_ : Array TypeId} {vs : List AV} {dst : Option Tmp} {ty : TypeId} {pos : String} {af : Array Edge} {g : Option (Nat × Bool)} (hf : opE env f = some (.fn gn cap)) (hv : opsE env args.toList = some vs) (hb : hasBody P gn = true) (hab : md.above K H = true) :
    ∀ st n x H' own', Sm env H sl cl st → callK P n (md.know K H) gn (vs ++ cap) H (canon (st.own.filter Loc.isCell)) = some (x, H', own') → coreM P K md ops n ⟨dst, .call { callee := .value f, args := args, argTypes := at_ }, ty, pos, af, g⟩ st = some ⟨x, H', st.own.filter (fun l => !l.isCell) ++ own'.filter Loc.isCell, false⟩ := by
  intro st n x H' own' hs hn
  refine coreM_of ?_ ?_
  · unfold yieldOp
    simp only
    rw [EnvLe.opd hs.env hf]
  · rw [coreP_core dry_call (lateE_of rfl), hs.H]
    unfold core
    simp only
    rw [EnvLe.opd hs.env hf, EnvLe.ops hs.env hv]
    simp only
    unfold callA
    rw [hb]
    simp only [cond_true]
    have := md.call_run P K n gn (vs ++ cap) H (canon (st.own.filter Loc.isCell)) hab
    rw [this, hn]
theorem O_call {sl' : List Nat} {d : Nat} {f : Operand} {gn : FuncId} {cap : List AV} {args : Array Operand} {at_ : Array TypeId} (vs : List AV) {R : AV → Hp → Cl → Prop} {ty : TypeId} {pos : String} {af : Array Edge} {g : Option (Nat × Bool)} (hw : wantE ops env g = some true) (hf : opE env f = some (.fn gn cap)) (hv : opsE env args.toList = some vs)
    (hb : hasBody P gn = true) (hab : md.above K H = true) (hd : Nat.blt d nt = true) (hsl : drp sl d = sl') (hc : CallsR P (md.know K H) gn (vs ++ cap) H cl R)
    (k : ∀ x H' cl', R x H' cl' → O P K nt md ops r ((d, x) :: env) H' sl' cl' Q) : O P K nt md ops (⟨some d, .call { callee := .value f, args := args, argTypes := at_ }, ty, pos, af, g⟩ :: r) env H sl cl Q := by
  subst hsl
  exact O_callM hw hab hd (callM_value hf hv hb hab) hc k
end
end Go.Proofs.YtecdcnacjlcjoaaDoor.Am

/- Walks over the machine, fourth part: rules for statements, loops, functions. -/
namespace Go.Proofs.YtecdcnacjlcjoaaDoor.Am
set_option linter.unusedVariables false
set_option linter.unusedSimpArgs false

abbrev K6 := Ex → K4
/-- A statement ends in Q. -/
structure C (P : Program) (K : Know) (vars : Nat → List Nat) (nt : Nat) (c : Code) (env : Env) (H : Hp) (sl : List Nat) (cl : Cl) (Q : K6) : Prop where
  to : ∀ st, Sm env H sl cl st → ∃ e env' H' sl' cl' st', Q e env' H' sl' cl' ∧ Sm env' H' sl' cl' st' ∧ Ev fun n => execK P n K vars nt c st = some (e, st')

/-- What is kept of the slots behind a region. -/
def keepE (vars : List Nat) (env : Env) : Env := vars.filterMap fun s => (lookE env s).map fun v => (s, v)
def keepS (vars : List Nat) (sl : List Nat) : List Nat := sl.filter fun q => vars.any (Nat.beq q)

/-- The blocks that are known ahead to be written. -/
def storeE (env : Env) (all : List Oper) : List Oper → Option (List Nat)
  | [] => some []
  | o :: r => match o.op with
    | .store _ (.tmp s) _ => cond (all.any fun p => p.dst == some s) (storeE env all r) (match lookE env s with
      | some (.ptr id _) => (storeE env all r).map (id :: ·)
      | some _ => storeE env all r
      | none => none)
    | _ => storeE env all r
theorem storeE_to {env : Env} {env' : List (Nat × AV)} (h : EnvLe env env') {all : List Oper} : ∀ {l : List Oper} {ws : List Nat}, storeE env all l = some ws → storeIds env' all l = ws
  | [], ws, hx => by injection hx
  | o :: r, ws, hx => by
    unfold storeE at hx
    unfold storeIds
    split at hx
    · rename_i t s x e
      rw [e]
      simp only
      cases ha : all.any fun p => p.dst == some s with
      | true => rw [ha] at hx; exact storeE_to h hx
      | false =>
        rw [ha] at hx
        simp only [cond_false] at hx ⊢
        split at hx
        · rename_i id off hl
          rw [h _ _ hl]
          simp only
          cases hr : storeE env all r with
          | none => rw [hr] at hx; cases hx
          | some vs => rw [hr] at hx; injection hx with hx; rw [storeE_to h hr]; exact hx
        · rename_i v hn hl
          rw [h _ _ hl]
          cases v with
          | ptr id off => exact absurd rfl (hn id off)
          | _ => exact storeE_to h hx
        · cases hx
    · rename_i hn
      split
      · rename_i t s x e; exact absurd e (hn t s x)
      · exact storeE_to h hx
def lateWE (ops : List Oper) (env : Env) : Option (Option (List Nat)) := cond (late ops) ((storeE env ops ops).map some) (some none)
theorem lateWE_to {env : Env} {env' : List (Nat × AV)} (h : EnvLe env env') {ops : List Oper} {l : Option (List Nat)} (hx : lateWE ops env = some l) : lateW ops env' = l := by
  unfold lateWE at hx
  unfold lateW
  cases hla : late ops with
  | false => rw [hla] at hx; injection hx
  | true =>
    rw [hla] at hx
    simp only [cond_true] at hx ⊢
    cases hs : storeE env ops ops with
    | none => rw [hs] at hx; cases hx
    | some ws => rw [hs] at hx; injection hx with hx; rw [storeE_to h hs]; exact hx
section
variable {P : Program} {K : Know} {vars : Nat → List Nat} {nt : Nat} {env : Env} {H : Hp} {sl : List Nat} {cl : Cl} {Q : K6}

theorem look_keep (env' : List (Nat × AV)) : ∀ (vs : List Nat) (s : Nat), s ∈ vs → look (vs.map fun s => (s, look env' s)) s = look env' s
  | [], s, h => by cases h
  | a :: r, s, h => by
    show cond (Nat.beq a s) (look env' a) (look (r.map fun s => (s, look env' s)) s) = look env' s
    cases hb : Nat.beq a s with
    | true => simp only [cond_true]; rw [Nat.eq_of_beq_eq_true hb]
    | false =>
      simp only [cond_false]
      rcases List.mem_cons.1 h with rfl | h
      · rw [Nat.beq_refl] at hb; cases hb
      · exact look_keep env' r s h
theorem look_keepE (env : Env) : ∀ (vs : List Nat) (s : Nat) (v : AV), lookE (keepE vs env) s = some v → s ∈ vs ∧ lookE env s = some v
  | [], s, v, h => by cases h
  | a :: r, s, v, h => by
    unfold keepE at h
    rw [List.filterMap_cons] at h
    cases ha : lookE env a with
    | none =>
      rw [ha] at h
      simp only [Option.map_none] at h
      have := look_keepE env r s v h
      exact ⟨List.mem_cons_of_mem _ this.1, this.2⟩
    | some x =>
      rw [ha] at h
      simp only [Option.map_some] at h
      unfold lookE at h
      cases hb : Nat.beq a s with
      | true =>
        rw [hb] at h
        simp only [cond_true] at h
        have e := Nat.eq_of_beq_eq_true hb
        subst e
        exact ⟨List.mem_cons_self, by rw [ha]; exact h⟩
      | false =>
        rw [hb] at h
        simp only [cond_false] at h
        have := look_keepE env r s v h
        exact ⟨List.mem_cons_of_mem _ this.1, this.2⟩
theorem sm_keep {vs : List Nat} {st : St} (h : Sm env H sl cl st) : Sm (keepE vs env) H (keepS vs sl) cl (keep vs st) := by
  refine ⟨fun s v hv => ?_, h.H, ⟨fun s hs => ?_, fun i o hp => ?_⟩⟩
  · obtain ⟨h1, h2⟩ := look_keepE env vs s v hv
    show look (vs.map fun s => (s, look st.env s)) s = v
    rw [look_keep st.env vs s h1]
    exact h.env s v h2
  · unfold keepS at hs
    rw [List.mem_filter] at hs
    exact List.mem_filter.2 ⟨h.own.slot s hs.1, hs.2⟩
  · exact List.mem_filter.2 ⟨h.own.cell i o hp, rfl⟩
theorem sm_holes {st : St} (h : Sm env H sl cl st) (m : Nat) : Sm env (H ++ List.replicate m none) sl cl { st with H := st.H ++ List.replicate m none } := ⟨h.env, by rw [h.H], h.own⟩

theorem C_mono {c : Code} {Q' : K6} (h : C P K vars nt c env H sl cl Q) (k : ∀ e env' H' sl' cl', Q e env' H' sl' cl' → Q' e env' H' sl' cl') : C P K vars nt c env H sl cl Q' := by
  refine ⟨fun st hs => ?_⟩
  obtain ⟨e, env', H', sl', cl', st', h1, h2⟩ := h.to st hs
  exact ⟨e, env', H', sl', cl', st', k _ _ _ _ _ h1, h2⟩
/-- Less is known. -/
theorem C_weak {c : Code} {env1 : Env} {sl1 : List Nat} {cl1 : Cl} (h : C P K vars nt c env1 H sl1 cl1 Q) (h1 : ∀ s v, lookE env1 s = some v → lookE env s = some v) (h2 : ∀ s, s ∈ sl1 → s ∈ sl) (h3 : ∀ p, p ∈ cl1 → p ∈ cl) : C P K vars nt c env H sl cl Q :=
  ⟨fun st hs => h.to st ⟨fun s v hv => hs.env s v (h1 s v hv), hs.H, hs.own.sub h2 h3⟩⟩
/-- A region in its order. -/
theorem C_reg {id : Nat} {ops : Array Oper} (h : O P K nt .plain ops.toList ops.toList env H sl cl fun env' H' sl' cl' => Q .normal (keepE (vars id) env') H' (keepS (vars id) sl') cl') : C P K vars nt (.region id ops false) env H sl cl Q := by
  refine ⟨fun st hs => ?_⟩
  obtain ⟨env', H', sl', cl', st', h1, h3, h4⟩ := h.to st hs
  refine ⟨.normal, _, _, _, _, _, h1, sm_keep h3, h4.succ fun n hn => ?_⟩
  rw [runM_plain] at hn
  rw [exec_succ]
  simp only [execWith, cond_false, hn]
/-- A region in any order. -/
theorem C_draw {id : Nat} {ops : Array Oper} (l : Option (List Nat)) {m : Bool} {q : Nat} (hl : lateWE ops.toList env = some l) (hm : mixed ops.toList = m) (hq : allocs ops.toList = q)
    (h : ∀ b, H.length = b → O P K nt (.draw b l m) ops.toList ops.toList env (H ++ List.replicate q none) sl cl fun env' H' sl' cl' => Q .normal (keepE (vars id) env') H' (keepS (vars id) sl') cl') : C P K vars nt (.region id ops true) env H sl cl Q := by
  subst hm hq
  refine ⟨fun st hs => ?_⟩
  obtain ⟨env', H', sl', cl', st', h1, h3, h4⟩ := (h _ rfl).to _ (sm_holes hs (allocs ops.toList))
  refine ⟨.normal, _, _, _, _, _, h1, sm_keep h3, h4.succ fun n hn => ?_⟩
  rw [runM_draw] at hn
  rw [exec_succ]
  simp only [execWith, cond_true]
  rw [← hs.H] at hn
  rw [lateWE_to hs.env hl]
  rw [hn]
theorem C_one {c : Code} {e : Ex} (h : Q e env H sl cl) (hc : ∀ n st, execK P (n + 1) K vars nt c st = some (e, st)) : C P K vars nt c env H sl cl Q :=
  ⟨fun st hs => ⟨_, _, _, _, _, st, h, hs, (Ev.of fun _ => trivial).succ fun n _ => hc n st⟩⟩
theorem C_skip (h : Q .normal env H sl cl) : C P K vars nt .skip env H sl cl Q := C_one h fun n st => by rw [exec_succ]; rfl
theorem C_exit {id : Nat} (h : Q (.exit id) env H sl cl) : C P K vars nt (.exit id) env H sl cl Q := C_one h fun n st => by rw [exec_succ]; rfl
theorem C_ret (h : Q .ret env H sl cl) : C P K vars nt .ret env H sl cl Q := C_one h fun n st => by rw [exec_succ]; rfl
/-- What the second of two statements is left. -/
def seqQ (P : Program) (K : Know) (vars : Nat → List Nat) (nt : Nat) (b : Code) (Q : K6) : K6 := fun e env H sl cl =>
  match e with
  | .normal => C P K vars nt b env H sl cl Q
  | .exit i => Q (.exit i) env H sl cl
  | .ret => Q .ret env H sl cl
theorem C_seq {a b : Code} (h : C P K vars nt a env H sl cl (seqQ P K vars nt b Q)) : C P K vars nt (.seq a b) env H sl cl Q := by
  refine ⟨fun st hs => ?_⟩
  obtain ⟨e, env', H', sl', cl', st1, h1, h5, h6⟩ := h.to st hs
  cases e with
  | normal =>
    have h1 : C P K vars nt b env' H' sl' cl' Q := h1
    obtain ⟨e, env'', H'', sl'', cl'', st2, h3, h7, h8⟩ := h1.to st1 h5
    exact ⟨e, _, _, _, _, st2, h3, h7, (h6.both h8).succ fun n hn => by rw [exec_succ]; simp only [execWith, hn.1]; exact hn.2⟩
  | exit i => exact ⟨.exit i, _, _, _, _, st1, h1, h5, h6.succ fun n hn => by rw [exec_succ]; simp only [execWith, hn]⟩
  | ret => exact ⟨.ret, _, _, _, _, st1, h1, h5, h6.succ fun n hn => by rw [exec_succ]; simp only [execWith, hn]⟩
theorem C_true {c : Operand} {a b : Code} (hc : opE env c = some (.bool true)) (h : C P K vars nt a env H sl cl Q) : C P K vars nt (.cond c a b) env H sl cl Q := by
  refine ⟨fun st hs => ?_⟩
  obtain ⟨e, env', H', sl', cl', st1, h1, h5, h6⟩ := h.to st hs
  exact ⟨e, _, _, _, _, st1, h1, h5, h6.succ fun n hn => by rw [exec_succ]; simp only [execWith, EnvLe.opd hs.env hc, cond_true, hn]⟩
theorem C_false {c : Operand} {a b : Code} (hc : opE env c = some (.bool false)) (h : C P K vars nt b env H sl cl Q) : C P K vars nt (.cond c a b) env H sl cl Q := by
  refine ⟨fun st hs => ?_⟩
  obtain ⟨e, env', H', sl', cl', st1, h1, h5, h6⟩ := h.to st hs
  exact ⟨e, _, _, _, _, st1, h1, h5, h6.succ fun n hn => by rw [exec_succ]; simp only [execWith, EnvLe.opd hs.env hc, cond_false, hn]⟩
theorem C_cond {c : Operand} {a b : Code} (t : Bool) (hc : opE env c = some (.bool t)) (h1 : t = true → C P K vars nt a env H sl cl Q) (h2 : t = false → C P K vars nt b env H sl cl Q) : C P K vars nt (.cond c a b) env H sl cl Q := by
  cases t with
  | true => exact C_true hc (h1 rfl)
  | false => exact C_false hc (h2 rfl)
def blkQ (id : Nat) (Q : K6) : K6 := fun e env H sl cl =>
  match e with
  | .normal => Q .normal env H sl cl
  | .exit i => match Nat.beq i id with
    | true => Q .normal env H sl cl
    | false => Q (.exit i) env H sl cl
  | .ret => Q .ret env H sl cl
theorem C_block {id : Nat} {c : Code} (h : C P K vars nt c env H sl cl (blkQ id Q)) : C P K vars nt (.block id c) env H sl cl Q := by
  refine ⟨fun st hs => ?_⟩
  obtain ⟨e, env', H', sl', cl', st1, h1, h5, h6⟩ := h.to st hs
  cases e with
  | normal => exact ⟨.normal, _, _, _, _, st1, h1, h5, h6.succ fun n hn => by rw [exec_succ]; simp only [execWith, hn]⟩
  | exit i =>
    have h1 : (match Nat.beq i id with | true => Q .normal env' H' sl' cl' | false => Q (.exit i) env' H' sl' cl') := h1
    cases hb : Nat.beq i id with
    | true =>
      rw [hb] at h1
      exact ⟨.normal, _, _, _, _, st1, h1, h5, h6.succ fun n hn => by rw [exec_succ]; simp only [execWith, hn, hb, cond_true]⟩
    | false =>
      rw [hb] at h1
      exact ⟨.exit i, _, _, _, _, st1, h1, h5, h6.succ fun n hn => by rw [exec_succ]; simp only [execWith, hn, hb, cond_false]⟩
  | ret => exact ⟨.ret, _, _, _, _, st1, h1, h5, h6.succ fun n hn => by rw [exec_succ]; simp only [execWith, hn]⟩
def loopQ (P : Program) (K : Know) (vars : Nat → List Nat) (nt : Nat) (c : Code) (Q : K6) : K6 := fun e env H sl cl =>
  match e with
  | .normal => C P K vars nt (.loop c) env H sl cl Q
  | .exit i => Q (.exit i) env H sl cl
  | .ret => Q .ret env H sl cl
theorem C_round {c : Code} (h : C P K vars nt c env H sl cl (loopQ P K vars nt c Q)) : C P K vars nt (.loop c) env H sl cl Q := by
  refine ⟨fun st hs => ?_⟩
  obtain ⟨e, env', H', sl', cl', st1, h1, h5, h6⟩ := h.to st hs
  cases e with
  | normal =>
    have h1 : C P K vars nt (.loop c) env' H' sl' cl' Q := h1
    obtain ⟨e, env'', H'', sl'', cl'', st2, h3, h7, h8⟩ := h1.to st1 h5
    exact ⟨e, _, _, _, _, st2, h3, h7, (h6.both h8).succ fun n hn => by rw [exec_succ]; simp only [execWith, hn.1]; exact hn.2⟩
  | exit i => exact ⟨.exit i, _, _, _, _, st1, h1, h5, h6.succ fun n hn => by rw [exec_succ]; simp only [execWith, hn]⟩
  | ret => exact ⟨.ret, _, _, _, _, st1, h1, h5, h6.succ fun n hn => by rw [exec_succ]; simp only [execWith, hn]⟩
end

/-! ### functions -/
def resE (P : Program) (env : Env) (H : Hp) : ResultVar → Option AV
  | .tmp t => lookE env t
  | .cell a t => match lookE env a with
    | some (.ptr id off) => loadA P H t (.ptr id off)
    | _ => none
def ressE (P : Program) (env : Env) (H : Hp) (rs : List ResultVar) : Option AV :=
  match rs with
  | [r] => resE P env H r
  | rs => (rs.mapM (resE P env H)).map .tup
section
variable {P : Program} {K : Know} {env : Env} {H : Hp} {sl : List Nat} {cl : Cl}
theorem resE_to {st : St} (hs : Sm env H sl cl st) {r : ResultVar} {v : AV} (h : resE P env H r = some v) : resultA P st r = some v := by
  cases r with
  | tmp t => show some (look st.env t) = some v; rw [hs.env t v h]
  | cell a t =>
    unfold resE at h
    simp only at h
    unfold resultA
    simp only
    split at h
    · rename_i id off hl
      rw [hs.env _ _ hl, hs.H]
      exact h
    · cases h
theorem resM_to {st : St} (hs : Sm env H sl cl st) : ∀ {rs : List ResultVar} {vs : List AV}, rs.mapM (resE P env H) = some vs → rs.mapM (resultA P st) = some vs
  | [], vs, h => h
  | r :: rs, vs, h => by
    rw [List.mapM_cons] at h ⊢
    cases h1 : resE P env H r with
    | none => rw [h1] at h; cases h
    | some v =>
      cases h2 : rs.mapM (resE P env H) with
      | none => rw [h1, h2] at h; cases h
      | some ws => rw [resE_to hs h1, resM_to hs h2]; rw [h1, h2] at h; exact h
theorem ressE_to {st : St} (hs : Sm env H sl cl st) {rs : List ResultVar} {v : AV} (h : ressE P env H rs = some v) : resultsA P st rs = some v := by
  have key : (rs.mapM (resE P env H)).map AV.tup = some v → (rs.mapM (resultA P st)).map AV.tup = some v := by
    intro h
    cases h2 : rs.mapM (resE P env H) with
    | none => rw [h2] at h; cases h
    | some ws => rw [resM_to hs h2]; rw [h2] at h; exact h
  unfold ressE at h
  unfold resultsA
  match rs, h, key with
  | [], h, key => exact key h
  | [r], h, _ => exact resE_to hs h
  | _ :: _ :: _, h, key => exact key h
/-- What the end of a function is asked. -/
def retQ (P : Program) (rs : List ResultVar) (R : AV → Hp → Cl → Prop) : K6 := fun e env H sl cl =>
  match e with
  | .exit _ => False
  | .normal => ∃ x, ressE P env H rs = some x ∧ R x H cl
  | .ret => ∃ x, ressE P env H rs = some x ∧ R x H cl
/-- A call, by its body. -/
theorem calls_by {f : FuncId} {fn : Func} {c : Code} (hf : P.funcs[f]? = some fn) (hb : fn.body = some c) (hK : (K.short f, K.bad f, K.fz f) = (none, false, false)) {args : List AV} {R : AV → Hp → Cl → Prop}
    (hlen : Nat.ble args.length fn.ntmps = true) (h : C P K (K.vars f) fn.ntmps c (zipArgs 0 args) H [] cl (retQ P fn.results.toList R)) :
    CallsR P K f args H cl R := by
  intro own hown
  have hs : Sm (zipArgs 0 args) H [] cl ⟨zipArgs 0 args, H, own.filter Loc.isCell⟩ :=
    ⟨fun s v hv => look_lookE hv, rfl, ⟨fun s hs => (by cases hs), fun i o hp => List.mem_filter.2 ⟨hown.cell i o hp, rfl⟩⟩⟩
  obtain ⟨e, env', H', sl', cl', st', h1, h7, h8⟩ := h.to _ hs
  have h3 : (match e with | .exit _ => False | _ => True) ∧ ∃ x, ressE P env' H' fn.results.toList = some x ∧ R x H' cl' := by
    cases e with
    | normal => exact ⟨trivial, h1⟩
    | exit i => exact h1.elim
    | ret => exact ⟨trivial, h1⟩
  obtain ⟨h4, x, h5, h6⟩ := h3
  refine ⟨x, H', cl', st'.own.filter Loc.isCell, h6, ⟨fun s hs => (by cases hs), fun i o hp => List.mem_filter.2 ⟨h7.own.cell i o hp, rfl⟩⟩, h8.succ fun n hn => ?_⟩
  have hr : resultsA P st' fn.results.toList = some x := ressE_to h7 h5
  have hle : args.length ≤ fn.ntmps := Nat.ble_eq.mp hlen
  have hK1 : K.short f = none := congrArg Prod.fst hK
  have hK2 : K.bad f = false := congrArg (fun p => p.2.1) hK
  have hK3 : K.fz f = false := congrArg (fun p => p.2.2) hK
  rw [call_succ]
  simp only [hK1, hK2, hK3, fzOut, cond_false, bodyA, hf, hb, if_pos hle, hn]
  cases e with
  | normal => simp only [hr, Option.map_some, h7.H]
  | ret => simp only [hr, Option.map_some, h7.H]
  | exit i => exact h4.elim
/-- A call that is known by heart. -/
theorem calls_short {f : FuncId} {g : Nat → List AV → Hp → List Loc → Option Out} (hK : K.short f = some g) {args : List AV} {R : AV → Hp → Cl → Prop} (h : ∀ own, Owned [] cl own → ∃ x H' cl' own', R x H' cl' ∧ Owned [] cl' own' ∧ g K.lo args H own = some (x, H', own')) : CallsR P K f args H cl R := by
  intro own hown
  obtain ⟨x, H', cl', own', h0, h1, h2⟩ := h own hown
  refine ⟨x, H', cl', own', h0, h1, (Ev.of fun _ => trivial).succ fun n _ => ?_⟩
  rw [call_succ, hK]
  exact h2
theorem CallsR.mono {f : FuncId} {args : List AV} {R R' : AV → Hp → Cl → Prop} (h : CallsR P K f args H cl R) (k : ∀ x H' cl', R x H' cl' → R' x H' cl') : CallsR P K f args H cl R' := by
  intro own hown
  obtain ⟨x, H', cl', own', h0, h1⟩ := h own hown
  exact ⟨x, H', cl', own', k _ _ _ h0, h1⟩
end
end Go.Proofs.YtecdcnacjlcjoaaDoor.Am

/- Walks over the machine, fifth part: loops over functions. -/
namespace Go.Proofs.YtecdcnacjlcjoaaDoor.Am
set_option linter.unusedVariables false
set_option linter.unusedSimpArgs false

/-- A round of a loop over a function ends in R. -/
def YieldsR (P : Program) (K : Know) (id : Nat) (args : List AV) (H : Hp) (cl : Cl) (R : AV → Hp → Cl → Prop) : Prop :=
  ∀ own, Owned [] cl own → ∃ x H' cl' own', R x H' cl' ∧ Owned [] cl' own' ∧ Ev fun n => yieldA K.lo (execK P n K) id args H own = some (x, H', own')
def exA : Ex → Bool
  | .normal => true
  | _ => false
/-- How a record stands behind a round. -/
def recE (e : Ex) (y : AV) : Option Blk :=
  match e with
  | .normal => recA 0 0 0 y
  | .ret => recA 2 1 0 y
  | .exit i => recA 2 2 i y
def endE (k x : Nat) : Ex :=
  match k with
  | 0 => .normal
  | 1 => .ret
  | _ => .exit x
section
variable {P : Program} {K : Know} {nt : Nat} {vars : Nat → List Nat} {ops r : List Oper} {env : Env} {H : Hp} {sl : List Nat} {cl : Cl}

theorem O_yield {Q : K4} {sl' : List Nat} {d : Nat} {f : Operand} {id : Nat} {args : Array Operand} {at_ : Array TypeId} (vs : List AV) {R : AV → Hp → Cl → Prop} {ty : TypeId} {pos : String} {af : Array Edge} {g : Option (Nat × Bool)} (hw : wantE ops env g = some true) (hf : opE env f = some (.yld id)) (hv : opsE env args.toList = some vs)
    (hd : Nat.blt d nt = true) (hsl : drp sl d = sl') (hc : YieldsR P K id vs H cl R)
    (k : ∀ x H' cl', R x H' cl' → O P K nt .plain ops r ((d, x) :: env) H' sl' cl' Q) : O P K nt .plain ops (⟨some d, .call { callee := .value f, args := args, argTypes := at_ }, ty, pos, af, g⟩ :: r) env H sl cl Q := by
  subst hsl
  refine ⟨fun st hs => ?_⟩
  obtain ⟨x, H', cl', own', h1, h2, h3⟩ := hc _ hs.own.cells
  obtain ⟨env1, H1, sl1, cl1, st1, q1, q2, q3⟩ := (k x H' cl' h1).to _ (sm_put (g := false) (g' := false) hs (hs.own.back h2) (fun e => e))
  refine ⟨env1, H1, sl1, cl1, st1, q1, q2, (h3.both q3).mono fun n hn => ?_⟩
  have hm : coreM P K .plain ops n ⟨some d, .call { callee := .value f, args := args, argTypes := at_ }, ty, pos, af, g⟩ st = some ⟨x, H', st.own.filter (fun l => !l.isCell) ++ own'.filter Loc.isCell, false⟩ := by
    unfold coreM
    simp only
    have hy : yieldOp st.env ⟨some d, .call { callee := .value f, args := args, argTypes := at_ }, ty, pos, af, g⟩ = some (id, vs) := by
      unfold yieldOp
      simp only
      rw [EnvLe.opd hs.env hf]
      simp only
      rw [EnvLe.ops hs.env hv]
      rfl
    rw [hy]
    simp only
    rw [hs.H, hn.1]
  unfold runM
  rw [stepM_core (wantE_to hs.env hw) hm]
  unfold Res.put
  simp only
  rw [if_pos (Nat.blt_eq.mp hd)]
  exact hn.2
theorem putAll_le : ∀ (ps : List Nat) (args : List AV) {env : Env} {env' : List (Nat × AV)}, EnvLe env env' → EnvLe (putAll ps args env) (putAll ps args env')
  | [], _, _, _, h => h
  | _ :: _, [], _, _, h => h
  | p :: ps, x :: xs, _, _, h => putAll_le ps xs (h.cons p x)
/-- A round, by the loop's record. -/
theorem yields_by {id x0 : Nat} {env0 : List (Nat × AV)} {ps : List Nat} {assign body : Code} {args : List AV} {R : AV → Hp → Cl → Prop} (hlo : Nat.ble K.lo id = true) (hr : getRec H id = some (0, 0, x0, .rcd vars nt env0 ps assign body)) (he : EnvLe env env0) (hlen : (Nat.beq args.length ps.length && ps.all fun p => Nat.blt p nt) = true)
    (h : C P K vars nt assign (putAll ps args env) H [] cl fun e env1 H1 sl1 cl1 => match e with
      | .normal => ∃ x1 y1, getRec H1 id = some (0, 0, x1, y1) ∧ C P K vars nt body env1 (H1.set id (recA 1 0 0 y1)) sl1 cl1 fun e env2 H2 sl2 cl2 => ∃ s k x y, getRec H2 id = some (s, k, x, y) ∧ R (.bool (exA e)) (H2.set id (recE e y)) cl2
      | _ => False) : YieldsR P K id args H cl R := by
  intro own hown
  rw [Bool.and_eq_true] at hlen
  have hs : Sm (putAll ps args env) H [] cl ⟨putAll ps args env0, H, own.filter Loc.isCell⟩ :=
    ⟨putAll_le ps args he, rfl, ⟨fun s hs => (by cases hs), fun i o hp => List.mem_filter.2 ⟨hown.cell i o hp, rfl⟩⟩⟩
  obtain ⟨e1, env1, H1, sl1, cl1, st1, h1, h2, h3⟩ := h.to _ hs
  cases e1 with
  | exit i => exact h1.elim
  | ret => exact h1.elim
  | normal =>
    obtain ⟨x1, y1, g1, g2⟩ := h1
    obtain ⟨e2, env2, H2, sl2, cl2, st2, ⟨s, k, x, y, q1, q2⟩, q3, q4⟩ := g2.to ⟨st1.env, H1.set id (recA 1 0 0 y1), st1.own⟩ ⟨h2.env, rfl, h2.own⟩
    refine ⟨_, _, cl2, st2.own.filter Loc.isCell, q2, ⟨fun s hs => (by cases hs), fun i o hp => List.mem_filter.2 ⟨q3.own.cell i o hp, rfl⟩⟩, (h3.both q4).mono fun n hn => ?_⟩
    unfold yieldA
    rw [hlo]
    simp only [cond_true]
    rw [hr]
    simp only
    rw [if_pos ⟨Nat.eq_of_beq_eq_true hlen.1, hlen.2⟩, hn.1]
    simp only
    rw [h2.H, g1]
    simp only
    rw [hn.2]
    simp only
    rw [q3.H, q1]
    cases e2 <;> rfl
/-- A loop over a function. -/
theorem C_range {Q : K6} {gq : Operand} {f : FuncId} {cap : List AV} {ps : Array Tmp} {assign body : Code} (hg : opE env gq = some (.fn f cap)) (hn : (noRange assign && noRange body) = true) (hb : hasBody P f = true)
    (h : ∀ id env', H.length = id → EnvLe env env' → CallsR P K f (.yld id :: cap) (H ++ [recA 0 0 0 (.rcd vars nt env' ps.toList assign body)]) cl fun x H1 cl1 => ∃ s k xx y, getRec H1 id = some (s, k, xx, y) ∧ Nat.beq s 1 = false ∧ Q (endE k xx) env (H1.set id (recA 3 k xx y)) sl cl1) :
    C P K vars nt (.rangeFunc gq ps assign body) env H sl cl Q := by
  refine ⟨fun st hs => ?_⟩
  obtain ⟨x, H1, cl1, own', ⟨s, k, xx, y, h1, h2, h3⟩, h4, h5⟩ := h _ st.env rfl hs.env _ hs.own.cells
  refine ⟨_, env, _, sl, cl1, ⟨st.env, H1.set H.length (recA 3 k xx y), st.own.filter (fun l => !l.isCell) ++ own'.filter Loc.isCell⟩, h3, ⟨hs.env, rfl, hs.own.back h4⟩, h5.succ fun n hn => ?_⟩
  rw [exec_succ]
  simp only [execWith, hn, cond_true]
  rw [‹(noRange assign && noRange body) = true›]
  simp only [cond_true]
  unfold rangeA
  rw [EnvLe.opd hs.env hg]
  simp only
  unfold callA
  rw [hb]
  simp only [cond_true]
  have hcall : callK P n K f (.yld st.H.length :: cap) (st.H ++ [recA 0 0 0 (.rcd vars nt st.env ps.toList assign body)]) (canon (st.own.filter Loc.isCell)) = some (x, H1, own') := by
    rw [hs.H]; exact hn
  rw [hcall]
  simp only
  rw [hs.H, h1]
  simp only
  rw [h2]
  simp only [cond_false]
  unfold endE
  match k with
  | 0 => rfl
  | 1 => rfl
  | _ + 2 => rfl
end
end Go.Proofs.YtecdcnacjlcjoaaDoor.Am

/- Walks over the machine, sixth part: small laws. -/
namespace Go.Proofs.YtecdcnacjlcjoaaDoor.Am
set_option linter.unusedVariables false

/-- A place in a function's text: false: the first part, true: the second. -/
def Code.sub : Code → List Bool → Code
  | c, [] => c
  | .seq a _, false :: r => Code.sub a r
  | .seq _ b, true :: r => Code.sub b r
  | .cond _ a _, false :: r => Code.sub a r
  | .cond _ _ b, true :: r => Code.sub b r
  | .block _ c, _ :: r => Code.sub c r
  | .loop c, _ :: r => Code.sub c r
  | c, _ => c
def at_ (f : Func) (p : List Bool) : Code := match f.body with
  | some c => Code.sub c p
  | none => .skip
def More (H H' : List (Option Blk)) : Prop := ∃ E, H' = H ++ E
theorem More.refl (H : List (Option Blk)) : More H H := ⟨[], (List.append_nil H).symm⟩
theorem More.trans {A B C : List (Option Blk)} (h : More A B) (k : More B C) : More A C := by
  obtain ⟨E, rfl⟩ := h; obtain ⟨F, rfl⟩ := k; exact ⟨E ++ F, by rw [List.append_assoc]⟩
theorem More.app (H E : List (Option Blk)) : More H (H ++ E) := ⟨E, rfl⟩
theorem get_last {α : Type} (H : List α) (a : α) : (H ++ [a])[H.length]? = some a := by simp
theorem get_app {α : Type} {H : List α} {i : Nat} {a : α} (h : H[i]? = some a) (E : List α) : (H ++ E)[i]? = some a := by rw [List.getElem?_append_left (List.getElem?_eq_some_iff.1 h).1]; exact h
theorem wrap_i64 {n : Int} (h0 : -9223372036854775808 ≤ n) (h1 : n < 9223372036854775808) : IntKind.i64.wrap n = n := by
  have : IntKind.i64.wrap n = (n + 9223372036854775808) % 18446744073709551616 - 9223372036854775808 := by
    simp [IntKind.wrap, IntKind.bits, IntKind.signed]
    split <;> omega
  rw [this]; omega
end Go.Proofs.YtecdcnacjlcjoaaDoor.Am

/- Readings of arguments, as the abstract machine's values. -/
namespace Go.Proofs.YtecdcnacjlcjoaaDoor.Am
set_option linter.unusedVariables false
set_option linter.unusedSimpArgs false

/-- The types of what comes in: their cells. -/
inductive Ty where
  | bool
  | int (k : IntKind)
  | str
  | slice (e : TypeId) (agg : Bool) (t : Ty)
  | unit
  | pair (a b : Ty)
def Ty.size : Ty → Nat
  | .bool => 1
  | .int _ => 1
  | .str => 1
  | .slice _ _ _ => 1
  | .unit => 0
  | .pair a b => a.size + b.size
def Ty.single : Ty → Bool
  | .unit => false
  | .pair _ _ => false
  | _ => true
def Ty.den : Ty → Type
  | .bool => Bool
  | .int k => { n : Int // (Lit.int k n).wf = true }
  | .str => { s : List UInt8 // s.length ≤ maxLen }
  | .slice _ _ t => Option { p : List t.den × List t.den // p.1.length + p.2.length ≤ maxLen }
  | .unit => Unit
  | .pair a b => a.den × b.den
def elt (agg : Bool) (cs : List AV) : AV :=
  match agg with
  | true => .agg cs
  | false => cs.headD .undef
def Ty.enc : (t : Ty) → t.den → List AV
  | .bool, b => [.bool b]
  | .int k, n => [.int k n.1]
  | .str, s => [.str s.1]
  | .slice e agg t, none => [.nils]
  | .slice e agg t, some p => [.lst e (p.1.1.map fun d => elt agg (t.enc d)) (p.1.2.map fun d => elt agg (t.enc d))]
  | .unit, _ => []
  | .pair a b, d => a.enc d.1 ++ b.enc d.2

def tyFields (f : TypeId → Option Ty) (P : Program) : List Field → Nat → Option Ty
  | [], _ => some .unit
  | fd :: r, off => match f fd.type with
    | some t => if fd.offset = off ∧ P.cellsOf fd.type = t.size then (tyFields f P r (off + t.size)).map (.pair t) else none
    | none => none
def tyOf (P : Program) : Nat → TypeId → Option Ty
  | 0, _ => none
  | n + 1, t => match P.underlying t with
    | some .bool => some .bool
    | some (.int k) => some (.int k)
    | some .string => some .str
    | some (.slice e) => match tyOf P n e, isAggT P e, sizeT P e with
      | some te, some agg, some sz => if sz = te.size ∧ 0 < sz ∧ (agg || te.single) = true then some (.slice e agg te) else none
      | _, _, _ => none
    | some (.struct fs) => match tyFields (tyOf P n) P fs.toList 0 with
      | some T => if P.cellsOf t = T.size then some T else none
      | none => none
    | _ => none

section
variable {P : Program} {w : World} {M : Mem}

/-- Cells that stand for values. -/
structure CR (P : Program) (M : Mem) (xs : List AV) (cs : List Value) : Prop where
  len : xs.length = cs.length
  rep : ∀ i, i < xs.length → Rep P M (xs.getD i .undef) (cs.getD i undef)
  one : ∀ i, i < xs.length → (cs.getD i undef).oneCell' = true
theorem CR.nil : CR P M [] [] := ⟨rfl, fun i h => by simp at h, fun i h => by simp at h⟩
theorem CR.single {x : AV} {v : Value} (r : Rep P M x v) (h : v.oneCell' = true) : CR P M [x] [v] :=
  ⟨rfl, fun i hi => by obtain rfl : i = 0 := by simpa using hi
                       exact r, fun i hi => by obtain rfl : i = 0 := by simpa using hi
                                               exact h⟩
theorem CR.append {xs ys : List AV} {cs ds : List Value} (h : CR P M xs cs) (k : CR P M ys ds) : CR P M (xs ++ ys) (cs ++ ds) := by
  refine ⟨by rw [List.length_append, List.length_append, h.len, k.len], ?_, ?_⟩
  · intro i hi
    rw [List.length_append] at hi
    simp only [List.getD_eq_getElem?_getD]
    by_cases hl : i < xs.length
    · rw [List.getElem?_append_left hl, List.getElem?_append_left (by rw [← h.len]; exact hl)]
      have := h.rep i hl
      simpa only [List.getD_eq_getElem?_getD] using this
    · rw [List.getElem?_append_right (by omega), List.getElem?_append_right (by rw [← h.len]; omega), ← h.len]
      have := k.rep (i - xs.length) (by omega)
      simpa only [List.getD_eq_getElem?_getD] using this
  · intro i hi
    rw [List.length_append] at hi
    simp only [List.getD_eq_getElem?_getD]
    by_cases hl : i < xs.length
    · rw [List.getElem?_append_left (by rw [← h.len]; exact hl)]
      have := h.one i hl
      simpa only [List.getD_eq_getElem?_getD] using this
    · rw [List.getElem?_append_right (by rw [← h.len]; omega), ← h.len]
      have := k.one (i - xs.length) (by omega)
      simpa only [List.getD_eq_getElem?_getD] using this

theorem enc_len : ∀ (t : Ty) (d : t.den), (t.enc d).length = t.size
  | .bool, _ => rfl
  | .int _, _ => rfl
  | .str, _ => rfl
  | .slice _ _ _, none => rfl
  | .slice _ _ _, some _ => rfl
  | .unit, _ => rfl
  | .pair a b, d => by simp only [Ty.enc, Ty.size, List.length_append, enc_len a d.1, enc_len b d.2]
theorem enc_one : ∀ (t : Ty) (d : t.den), t.single = true → ∃ x, t.enc d = [x] ∧ x.cells = [x]
  | .bool, _, _ => ⟨_, rfl, rfl⟩
  | .int _, _, _ => ⟨_, rfl, rfl⟩
  | .str, _, _ => ⟨_, rfl, rfl⟩
  | .slice _ _ _, none, _ => ⟨_, rfl, rfl⟩
  | .slice _ _ _, some _, _ => ⟨_, rfl, rfl⟩
  | .unit, _, h => by cases h
  | .pair a b, d, h => by cases h
theorem elt_cells {agg : Bool} {t : Ty} (h : (agg || t.single) = true) (d : t.den) : (elt agg (t.enc d)).cells = t.enc d := by
  cases agg with
  | true => rfl
  | false =>
    obtain ⟨x, h1, h2⟩ := enc_one t d (by simpa using h)
    rw [h1]; exact h2

theorem cells_at {a : Addr} {n : Nat} {cs : List Value} (h : w.cells? 0 a n = some cs) : cs.length = n ∧ ∀ j, j < n → w.cell? (a.add j) = some (cs.getD j undef) := by
  unfold World.cells? at h
  rw [if_pos (Nat.zero_le _)] at h
  have key : ∀ (l : List Nat) (ys : List Value), l.mapM (fun i => w.cell? (a.add i)) = some ys → ys.length = l.length ∧ ∀ i k, l[i]? = some k → w.cell? (a.add k) = some (ys.getD i undef) := by
    intro l
    induction l with
    | nil => intro ys h; simp at h; subst h; exact ⟨rfl, fun i k h => by simp at h⟩
    | cons x r ih =>
      intro ys h
      rw [List.mapM_cons] at h
      cases hx : w.cell? (a.add x) with
      | none => simp [hx] at h
      | some v =>
        cases hr : r.mapM (fun i => w.cell? (a.add i)) with
        | none => simp [hx, hr] at h
        | some vs =>
          simp [hx, hr] at h; subst h
          obtain ⟨h1, h2⟩ := ih vs hr
          refine ⟨by simp [h1], fun i k hi => ?_⟩
          cases i with
          | zero => simp at hi; subst hi; simpa using hx
          | succ i => simp at hi; simpa using h2 i k hi
  obtain ⟨h1, h2⟩ := key _ _ h
  rw [List.length_range] at h1
  exact ⟨h1, fun j hj => h2 j j (by rw [List.getElem?_range hj])⟩
theorem cell_plain {a : Addr} {v : Value} (h : w.cell? a = some v) : a = ⟨a.block, a.off, none⟩ := by
  unfold World.cell? at h
  split at h
  · split at h
    · cases h
    · rename_i hs
      obtain ⟨b, o, s⟩ := a
      cases s with
      | none => rfl
      | some x => simp at hs
  · cases h
theorem add_plain (b o n : Nat) : (Addr.add ⟨b, o, none⟩ n) = ⟨b, o + n, none⟩ := by
  unfold Addr.add
  split
  · rename_i h; rw [h]; rfl
  · rfl

end
end Go.Proofs.YtecdcnacjlcjoaaDoor.Am

/- Readings of arguments, second part: each reading is a value of its type. -/
namespace Go.Proofs.YtecdcnacjlcjoaaDoor.Am
set_option linter.unusedVariables false
set_option linter.unusedSimpArgs false

section
variable {P : Program} {w : World} {M : Mem} {H : Type} {enc : TypeId × Value → H} {held : Bool}

theorem mapM_each {α β : Type} {g : α → Option β} : ∀ {l : List α} {ys : List β}, l.mapM g = some ys → ∀ x ∈ l, ∃ y, g x = some y
  | [], ys, h, x, hx => by cases hx
  | a :: l, ys, h, x, hx => by
    rw [List.mapM_cons] at h
    cases ha : g a with
    | none => simp [ha] at h
    | some y =>
      cases hl : l.mapM g with
      | none => simp [ha, hl] at h
      | some zs =>
        rcases List.mem_cons.1 hx with rfl | hx
        · exact ⟨y, ha⟩
        · exact mapM_each hl x hx
theorem list_of {α : Type} {Q : Nat → α → Prop} : ∀ n, (∀ i, i < n → ∃ v, Q i v) → ∃ l : List α, l.length = n ∧ ∀ i v, l[i]? = some v → Q i v
  | 0, _ => ⟨[], rfl, fun i v h => by simp at h⟩
  | n + 1, h => by
    obtain ⟨l, h1, h2⟩ := list_of n fun i hi => h i (by omega)
    obtain ⟨v, hv⟩ := h n (by omega)
    refine ⟨l ++ [v], by simp [h1], fun i u hu => ?_⟩
    by_cases hi : i < l.length
    · rw [List.getElem?_append_left hi] at hu; exact h2 i u hu
    · rw [List.getElem?_append_right (by omega)] at hu
      have hi0 : i - l.length = 0 := by
        rcases Nat.eq_zero_or_pos (i - l.length) with h0 | h0
        · exact h0
        · rw [List.getElem?_eq_none (by simp; omega)] at hu; cases hu
      rw [hi0] at hu
      simp at hu; subst hu
      have : i = n := by omega
      subst this; exact hv

theorem slice_ty {e : TypeId} {agg : Bool} {te : Ty} {sz : Nat} (hM : ∀ b o v, w.cell? ⟨b, o, none⟩ = some v → M.pm b o = some v) (hsz : sizeT P e = some sz) (hte : sz = te.size) (hz : 0 < sz) (hs : (agg || te.single) = true) {a : Addr} {len cap : Nat} (hl : len ≤ cap) (hm : cap ≤ maxLen)
    (hel : ∀ i, i < cap → ∃ c v, w.cells? 0 (a.add (i * sz)) sz = some c ∧ CR P M (te.enc v) c) : ∃ v : (Ty.slice e agg te).den, CR P M ((Ty.slice e agg te).enc v) [.slice (some a) len cap] := by
  obtain ⟨all, h1, h2⟩ := list_of (Q := fun i v => ∃ c, w.cells? 0 (a.add (i * sz)) sz = some c ∧ CR P M (te.enc v) c) cap fun i hi => by obtain ⟨c, v, h⟩ := hel i hi; exact ⟨v, c, h⟩
  refine ⟨some ⟨(all.take len, all.drop len), by simp only [List.length_take, List.length_drop]; omega⟩, CR.single ?_ rfl⟩
  have hcat : (all.take len).map (fun d => elt agg (te.enc d)) ++ (all.drop len).map (fun d => elt agg (te.enc d)) = all.map fun d => elt agg (te.enc d) := by
    rw [← List.map_append, List.take_append_drop]
  have hall : ∀ x ∈ all.map (fun d => elt agg (te.enc d)), x.cells.length = sz := by
    intro x hx
    obtain ⟨d, _, rfl⟩ := List.mem_map.1 hx
    rw [elt_cells hs, enc_len, hte]
  have hplain : all ≠ [] → a = ⟨a.block, a.off, none⟩ := by
    intro hne
    obtain ⟨d, r, rfl⟩ : ∃ d r, all = d :: r := by
      cases all with
      | nil => exact absurd rfl hne
      | cons d r => exact ⟨d, r, rfl⟩
    obtain ⟨c, hc, _⟩ := h2 0 d rfl
    have := (cells_at hc).2 0 hz
    rw [Nat.zero_mul] at this
    have e0 : (a.add 0).add 0 = a := by simp [Addr.add]
    rw [e0] at this
    exact cell_plain this
  have hat : ∀ j, j < (flat (all.map fun d => elt agg (te.enc d))).length → ∃ v, w.cell? ⟨a.block, a.off + j, none⟩ = some v ∧ Rep P M ((flat (all.map fun d => elt agg (te.enc d))).getD j .undef) v ∧ v.oneCell' = true := by
    intro j hj
    rw [flat_len _ hall, List.length_map, h1] at hj
    have hdm : j / sz * sz + j % sz = j := by rw [Nat.mul_comm]; exact Nat.div_add_mod j sz
    have hr : j % sz < sz := Nat.mod_lt _ hz
    have hi : j / sz < cap := Nat.div_lt_of_lt_mul (by rw [Nat.mul_comm]; exact hj)
    obtain ⟨d, hd⟩ : ∃ d, all[j / sz]? = some d := ⟨all[j / sz], List.getElem?_eq_getElem (by omega)⟩
    obtain ⟨c, hc, hcr⟩ := h2 _ d hd
    obtain ⟨hc1, hc2⟩ := cells_at hc
    have hcell := hc2 (j % sz) hr
    have hne : all ≠ [] := by rintro rfl; simp at hd
    rw [hplain hne, add_plain, add_plain, Nat.add_assoc, hdm] at hcell
    refine ⟨_, hcell, ?_, hcr.one _ (by rw [enc_len]; omega)⟩
    have := flat_at _ hall (j / sz) (j % sz) (elt agg (te.enc d)) (by rw [List.getElem?_map, hd]; rfl) hr
    rw [hdm] at this
    rw [this, elt_cells hs]
    exact hcr.rep _ (by rw [enc_len]; omega)
  have hlen : ((all.take len).map fun d => elt agg (te.enc d)).length = len := by simp; omega
  have := Rep.lst (P := P) (M := M) e ((all.take len).map fun d => elt agg (te.enc d)) ((all.drop len).map fun d => elt agg (te.enc d)) (some a) cap sz a.block a.off (fun j => (w.cell? ⟨a.block, a.off + j, none⟩).getD undef) hsz hz (by rw [hcat]; exact hall)
    (by simp only [List.length_map, List.length_take, List.length_drop]; omega) (by
      intro hne
      rw [hcat] at hne
      have : all ≠ [] := by rintro rfl; simp at hne
      rw [← hplain this])
    (by intro j hj; rw [hcat] at hj; obtain ⟨v, h3, _⟩ := hat j hj; rw [h3]; exact hM _ _ _ h3)
    (by intro j hj; rw [hcat] at hj ⊢; obtain ⟨v, h3, h4, _⟩ := hat j hj; rw [h3]; exact h4)
    (by intro j hj; rw [hcat] at hj; obtain ⟨v, h3, _, h5⟩ := hat j hj; rw [h3]; exact h5)
  rw [hlen] at this
  exact this

theorem fields_ty {f : TypeId → Option Ty} {g : TypeId → List Value → Option (DataW H × List MemPlace)} (hg : ∀ t T cs y, f t = some T → g t cs = some y → ∃ v : T.den, CR P M (T.enc v) cs) {cs : List Value} : ∀ (fs : List Field) (off : Nat) (T : Ty) (ys : List (DataW H × List MemPlace)), tyFields f P fs off = some T →
    (fs.mapM fun fd => g fd.type ((cs.drop fd.offset).take (P.cellsOf fd.type))) = some ys → ∃ v : T.den, CR P M (T.enc v) ((cs.drop off).take T.size)
  | [], off, T, ys, h, _ => by
    simp only [tyFields, Option.some.injEq] at h; subst h
    exact ⟨(), by simp only [Ty.size, List.take_zero]; exact CR.nil⟩
  | fd :: r, off, T, ys, h, hy => by
    simp only [tyFields] at h
    cases hf : f fd.type with
    | none => rw [hf] at h; cases h
    | some t =>
      rw [hf] at h
      simp only at h
      split at h
      · rename_i hc
        cases hr : tyFields f P r (off + t.size) with
        | none => rw [hr] at h; cases h
        | some T' =>
          rw [hr] at h
          simp only [Option.map_some, Option.some.injEq] at h; subst h
          rw [List.mapM_cons] at hy
          cases hgd : g fd.type ((cs.drop fd.offset).take (P.cellsOf fd.type)) with
          | none => simp [hgd] at hy
          | some y =>
            cases hrr : r.mapM (fun fd => g fd.type ((cs.drop fd.offset).take (P.cellsOf fd.type))) with
            | none => simp [hgd, hrr] at hy
            | some zs =>
              obtain ⟨v, hv⟩ := hg _ _ _ _ hf hgd
              obtain ⟨v', hv'⟩ := fields_ty hg r (off + t.size) T' zs hr hrr
              refine ⟨(v, v'), ?_⟩
              rw [hc.1, hc.2] at hv
              have e : ((cs.drop off).take (t.size + T'.size)) = (cs.drop off).take t.size ++ (cs.drop (off + t.size)).take T'.size := by
                rw [List.take_add, List.drop_drop]
              show CR P M (t.enc v ++ T'.enc v') ((cs.drop off).take (t.size + T'.size))
              rw [e]
              exact hv.append hv'
      · cases h

theorem trod_ty (hM : ∀ b o v, w.cell? ⟨b, o, none⟩ = some v → M.pm b o = some v) : ∀ (n : Nat) (t : TypeId) (T : Ty) (fuel : Nat) (cs : List Value) (y : DataW H × List MemPlace), tyOf P n t = some T → DataW.trod enc P w 0 (fun _ => true) held fuel t cs = some y → ∃ v : T.den, CR P M (T.enc v) cs := by
  intro n
  induction n with
  | zero => intro t T fuel cs y h; cases h
  | succ n ih =>
    intro t T fuel cs y h hr
    cases fuel with
    | zero => simp [DataW.trod] at hr
    | succ fuel =>
      rw [DataW.trod_step] at hr
      unfold DataW.trodStep at hr
      simp only [tyOf] at h
      split at hr
      · rename_i b hu
        rw [hu] at h
        injection h with h; subst h
        exact ⟨b, CR.single (.bool b) rfl⟩
      · rename_i k k' m hu
        rw [hu] at h
        injection h with h; subst h
        split at hr
        · rename_i hk
          obtain ⟨rfl, hw⟩ := hk
          exact ⟨⟨m, hw⟩, CR.single (.int _ m) rfl⟩
        · cases hr
      · rename_i hu; rw [hu] at h; cases h
      · rename_i s hu
        rw [hu] at h
        injection h with h; subst h
        split at hr
        · rename_i hs
          refine ⟨⟨s.data.toList, by rw [Array.length_toList]; exact hs⟩, CR.single ?_ rfl⟩
          exact .str s.data.toList
        · cases hr
      · rename_i hu; rw [hu] at h; cases h
      · rename_i hu; rw [hu] at h; cases h
      · rename_i e hu
        rw [hu] at h
        simp only at h
        split at h
        · split at h
          · injection h with h; subst h
            exact ⟨none, CR.single .nils rfl⟩
          · cases h
        · cases h
      · rename_i e a len cap hu
        rw [hu] at h
        simp only at h
        split at h
        · rename_i te agg sz h1 h2 h3
          split at h
          · rename_i hc
            obtain ⟨c1, c2, c3⟩ := hc
            injection h with h; subst h
            have hcell : P.cellsOf e = sz := by
              unfold Program.cellsOf
              have : (P.info? e).map (·.size) = some sz := h3
              rw [this]; rfl
            rw [hcell] at hr
            simp only at hr
            split at hr
            · rename_i hb
              obtain ⟨_, hl, hm⟩ := hb
              refine slice_ty hM h3 c1 c2 c3 hl hm ?_
              intro i hi
              cases hA : (List.range len).mapM (fun i => (w.cells? 0 (a.add (i * sz)) sz).bind (DataW.trod enc P w 0 (fun _ => true) held fuel e)) with
              | none => rw [hA] at hr; cases hr
              | some elems =>
                rw [hA] at hr
                simp only [Option.bind_some, if_true] at hr
                cases hB : (List.range (cap - len)).mapM (fun j => (w.cells? 0 (a.add ((len + j) * sz)) sz).bind (DataW.trod enc P w 0 (fun _ => true) held fuel e)) with
                | none => rw [hB] at hr; cases hr
                | some rest =>
                  have hex : ∃ y, (w.cells? 0 (a.add (i * sz)) sz).bind (DataW.trod enc P w 0 (fun _ => true) held fuel e) = some y := by
                    by_cases hlt : i < len
                    · exact mapM_each hA i (List.mem_range.2 hlt)
                    · have := mapM_each hB (i - len) (List.mem_range.2 (by omega))
                      have e1 : len + (i - len) = i := by omega
                      rw [e1] at this
                      exact this
                  obtain ⟨y, hy⟩ := hex
                  cases hc : w.cells? 0 (a.add (i * sz)) sz with
                  | none => rw [hc] at hy; cases hy
                  | some c =>
                    rw [hc] at hy
                    obtain ⟨v, hv⟩ := ih e te fuel c y h1 hy
                    exact ⟨c, v, rfl, hv⟩
            · cases hr
          · cases h
        · cases h
      · rename_i cs x2 cs2 fs hu
        rw [hu] at h
        simp only at h
        split at h
        · rename_i T' hT
          split at h
          · rename_i hc
            injection h with h; subst h
            split at hr
            · rename_i hlen
              cases hm : fs.toList.mapM (fun f => DataW.trod enc P w 0 (fun _ => true) held fuel f.type ((cs.drop f.offset).take (P.cellsOf f.type))) with
              | none => rw [hm] at hr; cases hr
              | some ys =>
                obtain ⟨v, hv⟩ := fields_ty (f := tyOf P n) (g := fun t cs => DataW.trod enc P w 0 (fun _ => true) held fuel t cs) (fun t T cs y h1 h2 => ih t T fuel cs y h1 h2) fs.toList 0 _ ys hT hm
                refine ⟨v, ?_⟩
                rw [List.drop_zero, List.take_of_length_le (by rw [hlen, hc]; exact Nat.le_refl _)] at hv
                exact hv
            · cases hr
          · cases h
        · cases h
      all_goals first
        | (rename_i hu; rw [hu] at h; cases h)
        | (cases hr)
        | (rename_i hu _; rw [hu] at h; cases h)

end
end Go.Proofs.YtecdcnacjlcjoaaDoor.Am

/- What a law's function answers, from what the abstract machine says of it. -/
namespace Go.Proofs.YtecdcnacjlcjoaaDoor.Am
set_option linter.unusedVariables false
set_option linter.unusedSimpArgs false

section
variable {P : Program} {K : Know} {W : World}

/-- The memory that comes in: nobody writes it. -/
def G0 (W : World) : Gh := ⟨fun b => match W.heap[b]? with
  | some (.cells c _ _) => c.size
  | _ => 0, fun _ => none, fun _ => 0, fun _ => none⟩
/-- The variables are there, and hold what is known of them. -/
structure GlobAt (W : World) : Prop where
  lt : glN ≤ W.heap.size
  is : GlobIs fun b => if b < glN then W.heap[b]? else none
theorem G0_ok {W : World} (hG : GlobAt W) : GOk (G0 W) W := by
  refine ⟨fun id b h => (by cases h), fun b hb => ⟨?_, rfl, rfl⟩, ⟨fun b hb => ⟨Nat.lt_of_lt_of_le hb hG.lt, fun h => ?_⟩, hG.is⟩⟩
  case refine_2 =>
    rcases h with ⟨id, h⟩ | h
    · cases h
    · cases h
  show (match W.heap[b]? with | some (.cells c _ _) => c.size | _ => 0) = 0
  rw [Array.getElem?_eq_none hb]
theorem G0_pm (W : World) : ∀ b o v, W.cell? ⟨b, o, none⟩ = some v → ((G0 W).mem W).pm b o = some v := by
  intro b o v h
  show pmOf W (G0 W) b o = some v
  unfold pmOf
  rw [if_pos ?_, h]
  show o < (match W.heap[b]? with | some (.cells c _ _) => c.size | _ => 0)
  unfold World.cell? at h
  split at h
  · rename_i c t fr hb
    rw [hb]
    simp only at h ⊢
    exact (Array.getElem?_eq_some_iff.1 h).1
  · cases h
theorem G0_heap (W : World) : HeapRel P (G0 W) [] W := ⟨fun id b h => (by cases h), fun id b k h => (by cases h), fun i j b k l h => (by cases h), fun id b k h => (by cases h)⟩
theorem G0_foot (W : World) (b : Nat) : ¬ Foot (G0 W) b := by
  rintro (⟨id, h⟩ | h)
  · cases h
  · cases h

/-- A law's function: true, whatever memory it makes. -/
theorem law_calls (hG : GlobAt W) (hP : POk P) (hS : ShortSound P K) (hL : ShortLocal K) {f : FuncId} {args : List AV} {vals : Array Value} {b : Bool} (hc : CallsR P K f args [] [] fun x H' cl' => x = .bool b) (har : ArgsRep P ((G0 W).mem W) args vals) :
    Calls P f vals W fun e W' => e = .returned (.bool b) ∧ Go.RowKit.Below W.heap.size W W' := by
  obtain ⟨x, H', cl', own', hx, _, N, hN⟩ := hc [] ⟨fun s h => (by cases h), fun i o h => (by cases h)⟩
  subst hx
  have h1 := (machine_sound hP N K hS hL).1 f args [] [] _ (hN N (Nat.le_refl _)) (G0 W) W vals (G0_ok hG) (G0_heap W) ⟨fun id off b k cs h => (by cases h), fun id off h => (by cases h)⟩ har
  refine h1.mono ?_
  rintro e W' ⟨v, G', rfl, hd⟩
  have hr := hd.rep
  refine ⟨?_, hd.ext.below (Nat.le_refl _) fun b _ => G0_foot W b⟩
  cases hr
  rfl

theorem args_list {M : Mem} {xs : List AV} {vs : List Value} (hl : vs.length = xs.length) (h : ∀ i, i < xs.length → Rep P M (xs.getD i .undef) (vs.getD i undef)) : ArgsRep P M xs vs.toArray :=
  ⟨by simpa using hl, fun i hi => by have := h i hi; simpa [Array.getD_eq_getD_getElem?, List.getD_eq_getElem?_getD] using this⟩

end
end Go.Proofs.YtecdcnacjlcjoaaDoor.Am

/- A call without arguments whose answer is a truth value, told once for all memories: it leaves what the machine holds as it was. -/
namespace Go.Proofs.YtecdcnacjlcjoaaDoor.Am
set_option linter.unusedVariables false
set_option linter.unusedSimpArgs false
open Go.RowKit

section
variable {P : Program} {K : Know}

def idleF (b : Bool) : Nat → List AV → List (Option Blk) → List Loc → Option Out := fun lo args H own => match args with
  | [] => some (.bool b, H, own)
  | _ => none

theorem idle_local {f0 : FuncId} {b : Bool} (lo : Nat) : CallLock ⟨fun f' args H own => if f' = f0 then idleF b lo args H own else none, lo⟩ ∧ CallFill ⟨fun f' args H own => if f' = f0 then idleF b lo args H own else none, lo⟩ := by
  constructor
  · intro f args H own x H' own' h _
    simp only at h
    split at h
    case isFalse => cases h
    unfold idleF at h
    split at h
    · injection h with h; injection h with h1 h; injection h with h2 h3; subst h2; exact Lock.refl _ _
    · cases h
  · intro f args H own x H' own' p k h hp
    simp only at h ⊢
    split at h
    case isFalse => cases h
    rename_i he
    rw [if_pos he]
    unfold idleF at h ⊢
    split at h
    · injection h with h; injection h with h1 h; injection h with h2 h3; subst h1 h2 h3; exact ⟨hp, rfl⟩
    · cases h
theorem idle_sound (hP : POk P) (hS : ShortSound P K) (hL : ShortLocal K) {f0 : FuncId} {b : Bool} {n : Nat} {H' : List (Option Blk)} {own' : List Loc} (h : callK P n K f0 [] [] [] = some (.bool b, H', own')) (lo : Nat) : CallSound P ⟨fun f' args H own => if f' = f0 then idleF b lo args H own else none, lo⟩ := by
  intro f1 args H own out hc G w vals g hH ho ha
  simp only at hc
  split at hc
  case isFalse => cases hc
  rename_i he
  subst he
  cases args with
  | cons x r => cases hc
  | nil =>
  injection hc with hc
  subst hc
  have hnf : ∀ q, ¬ Foot (Gh.mk G.lim (fun _ => none) (fun _ => 0) (fun _ => none)) q := by
    rintro q (⟨id, h⟩ | h)
    · cases h
    · cases h
  have g1 : GOk (Gh.mk G.lim (fun _ => none) (fun _ => 0) (fun _ => none)) w := ⟨fun id q h => (by cases h), fun q hq => ⟨(g.new q hq).1, rfl, rfl⟩, ⟨fun b hb => ⟨(g.held.lt b hb).1, hnf b⟩, g.held.is⟩⟩
  have h1 := (machine_sound hP n K hS hL).1 f1 [] [] [] _ h (Gh.mk G.lim (fun _ => none) (fun _ => 0) (fun _ => none)) w vals g1 ⟨fun id q h => (by cases h), fun id q k h => (by cases h), fun i j q k l h => (by cases h), fun id q k h => (by cases h)⟩ ⟨fun id off q k cs h => (by cases h), fun id off h => (by cases h)⟩ ⟨ha.1, fun i hi => by simp at hi⟩
  refine h1.mono ?_
  rintro e w' ⟨v, G', rfl, hd⟩
  have hr := hd.rep
  have hext : Ext G w (Gh.mk G'.lim G.f G.bs G.owner) w' := by
    refine ⟨hd.ext.os, hd.ext.tape, hd.ext.output, hd.ext.size, fun q o u hq => hd.ext.prot q o u hq, fun _ _ h => h, fun _ => Nat.le_refl _, fun q hq hn => ?_⟩
    obtain ⟨a1, a2, _⟩ := hd.ext.foreign q hq (hnf q)
    exact ⟨a1, a2, hn⟩
  have hkeep : ∀ l x u, OwnAt P G w l x u → OwnAt P (Gh.mk G'.lim G.f G.bs G.owner) w' l x u := by
    intro l x u r e xs hx
    obtain ⟨sz, cells, h1, h2, h3, h4⟩ := r e xs hx
    have hlt : ∀ q, u.ownBlock = some q → q < w.heap.size := by
      intro q hq
      rcases h3.2 with ⟨rfl, _⟩ | ⟨g', cap, cur, rfl, _, hh, _⟩
      · simp [Value.ownBlock] at hq
      · have : g' = q := by simpa [Value.ownBlock] using hq
        subst this
        exact (Array.getElem?_eq_some_iff.1 hh).1
    refine ⟨sz, cells, h1, h2, h3.kept ⟨hd.ext.os, hd.ext.tape, hd.ext.output, hd.ext.size, fun i hi _ => (hd.ext.foreign i hi (hnf i)).1⟩ (row := none) (by cases u.ownBlock <;> simp), fun q hq => ⟨(h4 q hq).1, ?_⟩⟩
    show G'.lim q = _
    rw [(hd.ext.foreign q (hlt q hq) (hnf q)).2.1]
    exact (h4 q hq).2
  cases hr
  refine ⟨.bool b, Gh.mk G'.lim G.f G.bs G.owner, rfl, hext, ⟨fun id q hq => ?_, fun q hq => ?_, hext.held g.held⟩, ⟨hH.dom, fun id q k hq hk => ?_, hH.inj, fun id q k hq hk hn => ?_⟩, .bool b, ⟨fun id off q k cs hm hf hk hb => ?_, ho.dom⟩⟩
  · obtain ⟨a1, a3⟩ := g.fin id q hq
    exact ⟨Nat.lt_of_lt_of_le a1 hd.ext.size, a3⟩
  · obtain ⟨a1, a2, a3⟩ := g.new q (Nat.le_trans hd.ext.size hq)
    exact ⟨(hd.ok.new q hq).1, a2, a3⟩
  · exact (hH.blk id q k hq hk).to (hd.ext.foreign q (g.fin id q hq).1 (hnf q)).1 rfl hext.mem
  · show G'.lim q = 0
    rw [(hd.ext.foreign q (g.fin id q hq).1 (hnf q)).2.1]; exact hH.lim id q k hq hk hn
  · rw [(hd.ext.foreign q (g.fin id q hf).1 (hnf q)).1] at hb
    exact hkeep _ _ _ (ho.cell id off q k cs hm hf hk hb)

end
end Go.Proofs.YtecdcnacjlcjoaaDoor.Am

/- Functions of the library, told by heart: what they answer is told by their arguments' values, and nobody's memory is turned. -/
namespace Go.Proofs.YtecdcnacjlcjoaaDoor.Am
set_option linter.unusedVariables false
set_option linter.unusedSimpArgs false
open Go.RowKit

abbrev ShortF := Nat → List AV → List (Option Blk) → List Loc → Option Out
def quiet (F : List AV → Option AV) : ShortF := fun _ args H own => (F args).map fun x => (x, H, own)
/-- A law by heart is right, and local. -/
structure ShortOk (P : Program) (f : FuncId) (g : ShortF) : Prop where
  sound : ∀ lo, CallSound P ⟨fun f' args H own => if f' = f then g lo args H own else none, lo⟩
  loc : ∀ lo, CallLock ⟨fun f' args H own => if f' = f then g lo args H own else none, lo⟩ ∧ CallFill ⟨fun f' args H own => if f' = f then g lo args H own else none, lo⟩
/-- What a contract says of a function. -/
def QuietAt (P : Program) (f : FuncId) (F : List AV → Option AV) : Prop := ∀ args x, F args = some x → ∀ (G : Gh) (w : World) (vals : Array Value), GOk G w → ArgsRep P (G.mem w) args vals →
  Calls P f vals w fun e w' => ∃ v, e = .returned v ∧ Below w.heap.size w w' ∧ (Rep P (G.mem w') x v ∨ ∃ n, w.heap.size < w'.heap.size ∧ Rep P ((G.list w.heap.size n none).mem w') x v)

section
variable {P : Program}
theorem below_grow {G : Gh} {w w' : World} (hb : Below w.heap.size w w') : Grow G w G w' := ⟨hb, fun _ _ => rfl, fun _ _ => rfl, fun _ _ => rfl, fun _ _ h => h, fun _ _ h => .inl h⟩
theorem below_gok {G : Gh} {w w' : World} (g : GOk G w) (hb : Below w.heap.size w w') : GOk G w' :=
  ⟨fun id b h => ⟨Nat.lt_of_lt_of_le (g.fin id b h).1 hb.size, (g.fin id b h).2⟩, fun b h => g.new b (Nat.le_trans hb.size h), ((below_grow hb).ext g).held g.held⟩
theorem cellOwns_grow {G G' : Gh} {w w' : World} {H : List (Option Blk)} {own : List Loc} (gr : Grow G w G' w') (g : GOk G w) (hf : ∀ id b, G'.f id = some b → G.f id = some b) (ho : CellOwns P G H own w) : CellOwns P G' H own w' :=
  ⟨fun id off b k cs hm hi hk hb => (ho.cell id off b k cs hm (hf id b hi) hk (by rw [← gr.below.block b (g.fin id b (hf id b hi)).1]; exact hb)).grow gr, ho.dom⟩
theorem quiet_ok {f : FuncId} {F : List AV → Option AV} (h : QuietAt P f F) : ShortOk P f (quiet F) where
  sound := by
    intro lo f1 args H own out hc G w vals g hH ho ha
    simp only at hc
    split at hc
    case isFalse => cases hc
    rename_i he
    subst he
    unfold quiet at hc
    cases hx : F args with
    | none => rw [hx] at hc; cases hc
    | some x =>
      rw [hx] at hc
      injection hc with hc
      subst hc
      refine (h args x hx G w vals g ha).mono ?_
      rintro e w' ⟨v, rfl, hb, hr | ⟨n, hlt, hr⟩⟩
      · exact ⟨v, G, rfl, ⟨(below_grow hb).ext g, below_gok g hb, hH.grow (below_grow hb) g (fun _ _ h => h), hr, cellOwns_grow (below_grow hb) g (fun _ _ h => h) ho⟩⟩
      · exact ⟨v, _, rfl, ⟨(list_grow g hb n none).ext g, list_gok g hb hlt n none, hH.grow (list_grow g hb n none) g (fun _ _ h => h), hr, cellOwns_grow (list_grow g hb n none) g (fun _ _ h => h) ho⟩⟩
  loc := by
    intro lo
    constructor
    · intro f args H own x H' own' h _
      simp only at h
      split at h
      case isFalse => cases h
      unfold quiet at h
      cases hx : F args with
      | none => rw [hx] at h; cases h
      | some y => rw [hx] at h; injection h with h; injection h with h1 h; injection h with h2 h3; subst h2; exact Lock.refl _ _
    · intro f args H own x H' own' p k h hp
      simp only at h ⊢
      split at h
      case isFalse => cases h
      rename_i he
      rw [if_pos he]
      unfold quiet at h ⊢
      cases hx : F args with
      | none => rw [hx] at h; cases h
      | some y => rw [hx] at h; injection h with h; injection h with h1 h; injection h with h2 h3; subst h1 h2 h3; exact ⟨hp, rfl⟩
theorem idle_ok (hP : POk P) {K : Know} (hS : ShortSound P K) (hL : ShortLocal K) {f0 : FuncId} {b : Bool} {n : Nat} {H' : List (Option Blk)} {own' : List Loc} (h : callK P n K f0 [] [] [] = some (.bool b, H', own')) : ShortOk P f0 (idleF b) := ⟨idle_sound hP hS hL h, idle_local⟩

/-- The laws by heart, in a list. -/
def findS : List (FuncId × ShortF) → FuncId → Option ShortF
  | [], _ => none
  | (f, g) :: r, f' => cond (Nat.beq f f') (some g) (findS r f')
def AllOk (P : Program) : List (FuncId × ShortF) → Prop
  | [] => True
  | (f, g) :: r => ShortOk P f g ∧ AllOk P r
theorem findS_ok : ∀ {l : List (FuncId × ShortF)}, AllOk P l → ∀ {f : FuncId} {g : ShortF}, findS l f = some g → ShortOk P f g
  | [], _, f, g, h => by cases h
  | (f0, g0) :: r, hl, f, g, h => by
    unfold findS at h
    cases hb : Nat.beq f0 f with
    | true => rw [hb] at h; injection h with h; subst h; exact (Nat.eq_of_beq_eq_true hb) ▸ hl.1
    | false => rw [hb] at h; exact findS_ok hl.2 h
theorem short_sound {K : Know} {l : List (FuncId × ShortF)} (hK : K.short = findS l) (hl : AllOk P l) : ShortSound P K := fun f g h lo => (findS_ok hl (hK ▸ h)).sound lo
theorem short_local {K : Know} {l : List (FuncId × ShortF)} (hK : K.short = findS l) (hl : AllOk P l) : ShortLocal K := fun f g h lo => (findS_ok hl (hK ▸ h)).loc lo
end
section
variable {P : Program} {K : Know} {H : Hp} {cl : Cl}
theorem calls_quiet {f : FuncId} {F : List AV → Option AV} {args : List AV} {x : AV} (hK : K.short f = some (quiet F)) (hF : F args = some x) : CallsR P K f args H cl fun y H' cl' => y = x ∧ H' = H ∧ cl' = cl :=
  calls_short hK fun own ho => ⟨x, H, cl, own, ⟨rfl, rfl, rfl⟩, ho, by unfold quiet; rw [hF]; rfl⟩
theorem calls_idle {f : FuncId} {b : Bool} (hK : K.short f = some (idleF b)) : CallsR P K f [] H cl fun y H' cl' => y = .bool b ∧ H' = H ∧ cl' = cl :=
  calls_short hK fun own ho => ⟨.bool b, H, cl, own, ⟨rfl, rfl, rfl⟩, ho, rfl⟩
end
end Go.Proofs.YtecdcnacjlcjoaaDoor.Am

/- Walks over the machine: small laws for printed walks. -/
namespace Go.Proofs.YtecdcnacjlcjoaaDoor.Am
set_option linter.unusedVariables false

/-- What may be written lies at the end, and the ends of cells that are one's own lie ahead of it. -/
structure Fit (lo : Nat) (cl : Cl) (H : Hp) : Prop where
  lo : lo ≤ H.length
  cl : ∀ i o, (i, o) ∈ cl → i < H.length
theorem More.len {H H' : Hp} (h : More H H') : H.length ≤ H'.length := by obtain ⟨E, rfl⟩ := h; rw [List.length_append]; omega
theorem More.get {H H' : Hp} {i : Nat} {x : Option Blk} (h : More H H') (k : H[i]? = some x) : H'[i]? = some x := by obtain ⟨E, rfl⟩ := h; exact get_app k _
theorem Fit.more {lo : Nat} {cl : Cl} {H H' : Hp} (h : Fit lo cl H) (k : More H H') : Fit lo cl H' := ⟨Nat.le_trans h.lo k.len, fun i o hp => Nat.lt_of_lt_of_le (h.cl i o hp) k.len⟩
/-- A block that a function has made. -/
structure Own (lo : Nat) (cl : Cl) (H0 : Hp) (id : Nat) : Prop where
  lo : Nat.ble lo id = true
  ge : H0.length ≤ id
  cl : ∀ i o, (i, o) ∈ cl → i ≠ id
theorem More.set {H0 H : Hp} {id : Nat} (h : More H0 H) (k : H0.length ≤ id) (b : Option Blk) : More H0 (H.set id b) := by
  obtain ⟨E, rfl⟩ := h
  exact ⟨E.set (id - H0.length) b, by rw [List.set_append_right _ _ k]⟩
theorem get_set_same {H : Hp} {id : Nat} {x : Option Blk} (h : H[id]? = some x) (b : Option Blk) : (H.set id b)[id]? = some b := List.getElem?_set_self (List.getElem?_eq_some_iff.1 h).1
theorem get_set_ne {H : Hp} {id j : Nat} {x : Option Blk} (h : H[j]? = some x) (k : j ≠ id) (b : Option Blk) : (H.set id b)[j]? = some x := by rw [List.getElem?_set_ne (fun e => k e.symm)]; exact h
/-- A store into such a block leaves the ends of one's own cells. -/
theorem Own.keep {lo : Nat} {cl : Cl} {H0 : Hp} {id off n : Nat} (h : Own lo cl H0 id) {Q : Nat → Nat → Prop} : ∀ i o, (i, o) ∈ cl → Q i o ∨ ((i, o) ∈ cl ∧ ¬ (i = id ∧ off ≤ o ∧ o < off + n)) := fun i o hp => .inr ⟨hp, fun e => h.cl i o hp e.1⟩

section
variable {P : Program} {env : Env} {t e ty : TypeId} {x y i : Operand} {kd : IntKind}
theorem idx_row {xs sp : List AV} {k : Nat} {v : AV} (hx : opE env x = some (.lst e xs sp)) (hi : opE env i = some (.int kd (k : Int))) (hu : P.underlying t = some (.slice e)) (hv : xs[k]? = some v) : pureE P env (.indexAddr t x i) = some (.ept v.cells 0) := by
  unfold pureE
  simp only [hx, hi]
  unfold indexAddrA
  rw [hu]
  have hlt := (List.getElem?_eq_some_iff.1 hv).1
  have hin : inRange (k : Int) xs.length = true := by simp [inRange]; exact hlt
  simp only [decide_true, hin, Bool.and_self, if_true, Int.toNat_natCast, hv, Option.map_some]
theorem idx_str {s : List UInt8} {k : Nat} {b : UInt8} (hx : opE env x = some (.str s)) (hi : opE env i = some (.int kd (k : Int))) (hu : P.underlying t = some .string) (hb : s[k]? = some b) : pureE P env (.index t x i) = some (.int .u8 (b.toNat : Int)) := by
  unfold pureE
  simp only [hx, hi]
  unfold indexA
  rw [hu]
  simp only
  rw [if_pos (Int.natCast_nonneg k), Int.toNat_natCast, hb]
  rfl
theorem add_str {a b : List UInt8} (hx : opE env x = some (.str a)) (hy : opE env y = some (.str b)) (h : a.length + b.length ≤ 9223372036854775807) : pureE P env (.binOp .add t x y ty) = some (.str (a ++ b)) := by
  unfold pureE
  simp only [hx, hy]
  show strOp .add a b = _
  unfold strOp
  rw [if_pos h]
end
end Go.Proofs.YtecdcnacjlcjoaaDoor.Am

/- Walks over the machine: functions over plain values, and rules for walks that are printed beside them. -/
namespace Go.Proofs.YtecdcnacjlcjoaaDoor.Am
set_option linter.unusedVariables false
set_option linter.unusedSimpArgs false

abbrev Bs := List UInt8
/-- A slice: nil, or its elements and those that lie behind them. -/
abbrev Sl (α : Type) := Option (List α × List α)
section
variable {α β : Type}
def Sl.enc (e : TypeId) (f : α → AV) : Sl α → AV
  | none => .nils
  | some p => .lst e (p.1.map f) (p.2.map f)
def Sl.els : Sl α → List α
  | none => []
  | some p => p.1
def Sl.len (s : Sl α) : Int := (s.els.length : Nat)
def lat (l : List α) (i : Int) : Option α := cond (decide (0 ≤ i)) l[i.toNat]? none
def Sl.get (s : Sl α) (i : Int) : Option α := lat s.els i
def bnd (x : Option Int) (dflt top : Nat) : Option Nat :=
  match x with
  | none => some dflt
  | some i => if 0 ≤ i ∧ i ≤ top then some i.toNat else none
def Sl.cut (s : Sl α) (lo hi mx : Option Int) : Option (Sl α) :=
  match s with
  | none => (bnd mx 0 0).bind fun m => (bnd hi 0 m).bind fun h => (bnd lo 0 h).bind fun _ => some none
  | some p => (bnd mx (p.1.length + p.2.length) (p.1.length + p.2.length)).bind fun m => (bnd hi p.1.length m).bind fun h => (bnd lo 0 h).bind fun l => some (some (((p.1 ++ p.2).take h).drop l, ((p.1 ++ p.2).take m).drop h))
/-- Appended to, where nothing lies behind; 'b': how many bytes an element has. -/
def Sl.app (b : Nat) (s y : Sl α) : Option (Sl α) :=
  match s with
  | none => if y.els.length * b ≤ 140737488355328 ∧ y.els.length ≤ 140737488355328 then some (some (y.els, [])) else none
  | some (xs, []) => if (xs.length + y.els.length) * b ≤ 140737488355328 ∧ xs.length + y.els.length ≤ 140737488355328 then some (some (xs ++ y.els, [])) else none
  | some (_, _ :: _) => none
def strAt (s : Bs) (i : Int) : Option Int := cond (decide (0 ≤ i)) ((s[i.toNat]?).map fun b => (b.toNat : Int)) none
def scut (s : Bs) (lo hi : Option Int) : Option Bs := (bnd hi s.length s.length).bind fun h => (bnd lo 0 h).bind fun l => some ((s.take h).drop l)
def sadd (a b : Bs) : Option Bs := if a.length + b.length ≤ 9223372036854775807 then some (a ++ b) else none
/-- Bytes as a text. -/
def Sl.str (s : Sl Int) : Bs := s.els.map fun n => UInt8.ofNat n.toNat
def jn (k : α → Option β) (F : (α → Option β) → Option β) : Option β := F k

theorem obind_some {o : Option α} {k : α → Option β} {r : β} (h : o.bind k = some r) : ∃ a, o = some a ∧ k a = some r := by
  cases o with
  | none => cases h
  | some a => exact ⟨a, rfl, h⟩
theorem ocond_t {c : Bool} {A B : Option α} {r : α} (h : cond c A B = some r) (hc : c = true) : A = some r := by subst hc; exact h
theorem ocond_f {c : Bool} {A B : Option α} {r : α} (h : cond c A B = some r) (hc : c = false) : B = some r := by subst hc; exact h
theorem jn_some {K : α → Option β} {F : (α → Option β) → Option β} {r : β} (h : jn K F = some r) : ∃ k, k = K ∧ F k = some r := ⟨K, rfl, h⟩
end

/-! ### which blocks are kept -/
/-- All blocks but some are as they were. -/
structure Kp (W : List Nat) (H H' : Hp) : Prop where
  len : H.length ≤ H'.length
  get : ∀ i x, i ∉ W → H[i]? = some x → H'[i]? = some x
theorem Kp.refl {W : List Nat} (H : Hp) : Kp W H H := ⟨Nat.le_refl _, fun _ _ _ h => h⟩
theorem Kp.trans {W : List Nat} {A B C : Hp} (h : Kp W A B) (k : Kp [] B C) : Kp W A C := ⟨Nat.le_trans h.len k.len, fun i x hi hx => k.get i x (by simp) (h.get i x hi hx)⟩
theorem Kp.trans' {W V : List Nat} {A B C : Hp} (h : Kp W A B) (k : Kp V B C) (hv : ∀ i, i ∈ V → i ∈ W ∨ A.length ≤ i) : Kp W A C :=
  ⟨Nat.le_trans h.len k.len, fun i x hi hx => k.get i x (fun hm => by
    rcases hv i hm with h1 | h1
    · exact hi h1
    · have := (List.getElem?_eq_some_iff.1 hx).1; omega) (h.get i x hi hx)⟩
theorem Kp.of {H H' : Hp} (h : Kp [] H H') (W : List Nat) : Kp W H H' := ⟨h.len, fun i x _ hx => h.get i x (by simp) hx⟩
theorem Kp.get0 {H H' : Hp} {i : Nat} {x : Option Blk} (h : Kp [] H H') (hx : H[i]? = some x) : H'[i]? = some x := h.get i x (by simp) hx
theorem Kp.app {W : List Nat} {H0 H : Hp} (h : Kp W H0 H) (E : List (Option Blk)) : Kp W H0 (H ++ E) := ⟨by rw [List.length_append]; have := h.len; omega, fun i x hi hx => get_app (h.get i x hi hx) E⟩
theorem Kp.set {W : List Nat} {H0 H : Hp} {id : Nat} (h : Kp W H0 H) (k : H0.length ≤ id) (b : Option Blk) : Kp W H0 (H.set id b) :=
  ⟨by rw [List.length_set]; exact h.len, fun i x hi hx => by
    have := (List.getElem?_eq_some_iff.1 hx).1
    exact get_set_ne (h.get i x hi hx) (by omega) b⟩
theorem Kp.setW {W : List Nat} {H0 H : Hp} {id : Nat} (h : Kp W H0 H) (k : id ∈ W) (b : Option Blk) : Kp W H0 (H.set id b) :=
  ⟨by rw [List.length_set]; exact h.len, fun i x hi hx => get_set_ne (h.get i x hi hx) (fun e => hi (e ▸ k)) b⟩
theorem Kp.eq {W : List Nat} {H H' : Hp} (h : H' = H) : Kp W H H' := by subst h; exact Kp.refl _
theorem Fit.kp {lo : Nat} {cl : Cl} {H H' : Hp} {W : List Nat} (h : Fit lo cl H) (k : Kp W H H') : Fit lo cl H' := ⟨Nat.le_trans h.lo k.len, fun i o hp => Nat.lt_of_lt_of_le (h.cl i o hp) k.len⟩
theorem Fit.up {lo : Nat} {cl : Cl} {H : Hp} (h : Fit lo cl H) : Fit (max lo H.length) cl H := ⟨by have := h.lo; omega, h.cl⟩
theorem Own.mk2 {lo : Nat} {cl : Cl} {H0 H : Hp} {id : Nat} {W : List Nat} (h : Fit lo cl H0) (k : Kp W H0 H) (e : H.length ≤ id) : Own lo cl H0 id :=
  ⟨Nat.ble_eq.mpr (by have := h.lo; have := k.len; omega), by have := k.len; omega, fun i o hp => by have := h.cl i o hp; have := k.len; omega⟩
theorem ne_of_lt {H : Hp} {j id : Nat} {x : Option Blk} (h : H[j]? = some x) (e : H.length ≤ id) : j ≠ id := by have := (List.getElem?_eq_some_iff.1 h).1; omega
theorem above_of {lo : Nat} {cl : Cl} {H : Hp} (h : Fit lo cl H) : Nat.ble lo H.length = true := Nat.ble_eq.mpr h.lo
theorem get_fill {H : Hp} {b q m : Nat} (e : H.length = b) (h : q < m) : (H ++ List.replicate m none : Hp)[b + q]? = some none := by
  subst e
  rw [List.getElem?_append_right (by omega), Nat.add_sub_cancel_left, List.getElem?_replicate, if_pos h]

/-- Only some slots are looked at any more. -/
theorem C_keep {P : Program} {K : Know} {vars : Nat → List Nat} {nt : Nat} {c : Code} {env : Env} {H : Hp} {sl : List Nat} {cl : Cl} {Q : K6} (vs : List Nat) (h : C P K vars nt c (keepE vs env) H (keepS vs sl) cl Q) : C P K vars nt c env H sl cl Q :=
  C_weak h (fun s v hv => (look_keepE env vs s v hv).2) (fun s hs => by unfold keepS at hs; exact (List.mem_filter.1 hs).1) (fun _ h => h)

section
variable {P : Program} {env : Env} {t e ty tx : TypeId} {x y i : Operand} {kd : IntKind} {α : Type} {f : α → AV}
theorem len_sl {s : Sl α} {args : Array Operand} {at_ : Array TypeId} {e' : TypeId} (har : args.toList = [x]) (hat : at_.toList = [t]) (hu : P.underlying t = some (.slice e')) (hx : opE env x = some (Sl.enc e f s)) : pureE P env (.call { callee := .builtin .len, args := args, argTypes := at_ }) = some (.int .i64 s.len) := by
  unfold pureE
  simp only [har, hat, hu, hx]
  cases s with
  | none => rfl
  | some p => simp only [Sl.enc, Sl.len, Sl.els, List.length_map]
theorem idx_sl {s : Sl α} {n : Int} {v : α} (hx : opE env x = some (Sl.enc e f s)) (hi : opE env i = some (.int kd n)) (hu : P.underlying t = some (.slice e)) (h : s.get n = some v) : pureE P env (.indexAddr t x i) = some (.ept (f v).cells 0) := by
  unfold Sl.get lat at h
  cases s with
  | none => simp [Sl.els] at h
  | some p =>
    simp only [Sl.els] at h
    cases hd : decide (0 ≤ n) with
    | false => rw [hd] at h; cases h
    | true =>
      rw [hd] at h
      simp only [cond_true] at h
      have hn : ((n.toNat : Nat) : Int) = n := Int.toNat_of_nonneg (of_decide_eq_true hd)
      rw [← hn] at hi
      exact idx_row (sp := p.2.map f) (xs := p.1.map f) hx hi hu (by rw [List.getElem?_map, h]; rfl)
theorem idx_strI {s : Bs} {n c : Int} (hx : opE env x = some (.str s)) (hi : opE env i = some (.int kd n)) (hu : P.underlying t = some .string) (h : strAt s n = some c) : pureE P env (.index t x i) = some (.int .u8 c) := by
  unfold strAt at h
  cases hd : decide (0 ≤ n) with
  | false => rw [hd] at h; cases h
  | true =>
    rw [hd] at h
    simp only [cond_true] at h
    have hn : ((n.toNat : Nat) : Int) = n := Int.toNat_of_nonneg (of_decide_eq_true hd)
    rw [← hn] at hi
    cases hb : s[n.toNat]? with
    | none => rw [hb] at h; cases h
    | some b => rw [hb] at h; injection h with h; subst h; exact idx_str hx hi hu hb
theorem bnd_A {o : Option Int} {v : Option AV} {dflt top r : Nat} (hv : v = o.map (AV.int kd)) (h : bnd o dflt top = some r) : boundA v dflt top = some r := by
  subst hv
  cases o with
  | none => exact h
  | some n => exact h
theorem cut_str {s r : Bs} {lo hi : Option Operand} {l h : Option Int} (hx : opE env x = some (.str s)) (hl : optE env lo = some (l.map (AV.int .i64))) (hh : optE env hi = some (h.map (AV.int .i64))) (hu : P.underlying t = some .string) (hc : scut s l h = some r) : pureE P env (.slice t x lo hi none) = some (.str r) := by
  unfold pureE
  simp only [hx, hl, hh, show optE env none = some none from rfl]
  unfold sliceA
  rw [hu]
  simp only
  unfold scut at hc
  obtain ⟨a, h1, hc⟩ := obind_some hc
  obtain ⟨b, h2, hc⟩ := obind_some hc
  rw [bnd_A (kd := .i64) rfl h1]
  simp only
  rw [bnd_A (kd := .i64) rfl h2]
  simp only
  exact congrArg (fun z => some (AV.str z)) (Option.some.inj hc)
theorem cut_sl {s r : Sl α} {lo hi mx : Option Operand} {l h m : Option Int} {sz : Nat} (hx : opE env x = some (Sl.enc e f s)) (hl : optE env lo = some (l.map (AV.int .i64))) (hh : optE env hi = some (h.map (AV.int .i64))) (hm : optE env mx = some (m.map (AV.int .i64))) (hu : P.underlying t = some (.slice e)) (hsz : sizeT P e = some sz) (hmx : (m.isSome && !h.isSome) = false) (hc : s.cut l h m = some r) : pureE P env (.slice t x lo hi mx) = some (Sl.enc e f r) := by
  unfold pureE
  simp only [hx, hl, hh, hm]
  unfold sliceA
  rw [hu]
  simp only
  have hmx' : ((m.map (AV.int IntKind.i64)).isSome && !(h.map (AV.int IntKind.i64)).isSome) = false := by rw [Option.isSome_map, Option.isSome_map]; exact hmx
  rw [hmx']
  simp only [Bool.false_eq_true, if_false]
  unfold Sl.cut at hc
  cases s with
  | none =>
    obtain ⟨a, h1, hc⟩ := obind_some hc
    obtain ⟨b, h2, hc⟩ := obind_some hc
    obtain ⟨c, h3, hc⟩ := obind_some hc
    simp only [Sl.enc]
    rw [bnd_A (kd := .i64) rfl h1]
    simp only
    rw [bnd_A (kd := .i64) rfl h2]
    simp only
    rw [bnd_A (kd := .i64) rfl h3, hsz]
    simp only
    have hc := Option.some.inj hc
    subst hc
    rfl
  | some p =>
    obtain ⟨a, h1, hc⟩ := obind_some hc
    obtain ⟨b, h2, hc⟩ := obind_some hc
    obtain ⟨c, h3, hc⟩ := obind_some hc
    simp only [Sl.enc]
    rw [List.length_map, List.length_map]
    rw [bnd_A (kd := .i64) rfl h1]
    simp only
    rw [bnd_A (kd := .i64) rfl h2]
    simp only
    rw [bnd_A (kd := .i64) rfl h3]
    have hc := Option.some.inj hc
    subst hc
    simp only [if_true, Sl.enc]
    rw [← List.map_append, ← List.map_take, ← List.map_drop, ← List.map_take, ← List.map_drop]
theorem add_strO {a b c : Bs} (hx : opE env x = some (.str a)) (hy : opE env y = some (.str b)) (h : sadd a b = some c) : pureE P env (.binOp .add t x y ty) = some (.str c) := by
  unfold sadd at h
  split at h
  · rename_i hl; injection h with h; subst h; exact add_str hx hy hl
  · cases h
/-- An array, at a place that is told. -/
theorem idx_arr {l : List α} {n : Int} {v : α} {len : Nat} (hx : opE env x = some (.agg (l.map f))) (hi : opE env i = some (.int kd n)) (hu : P.underlying t = some (.array len e)) (hlen : Nat.beq len l.length = true) (hsz : sizeT P e = some 1) (hag : isAggT P e = some false) (h : lat l n = some v) : pureE P env (.index t x i) = some (f v) := by
  unfold lat at h
  cases hd : decide (0 ≤ n) with
  | false => rw [hd] at h; cases h
  | true =>
    rw [hd] at h
    simp only [cond_true] at h
    have hlt := (List.getElem?_eq_some_iff.1 h).1
    have h0 := of_decide_eq_true hd
    have hlen := Nat.eq_of_beq_eq_true hlen
    unfold pureE
    simp only [hx, hi]
    unfold indexA
    rw [hu]
    simp only [hsz]
    have hin : inRange n len = true := by simp [inRange]; omega
    rw [hin]
    simp only [if_true, Nat.mul_one]
    unfold partA
    rw [hag, hsz]
    simp only
    rw [List.getElem?_map, h]; rfl
theorem idxp_arr {n : Int} {id off : Nat} {l : List α} {v : α} {len : Nat} (hx : opE env x = some (.ptr id off)) (hi : opE env i = some (.int kd n)) (hu : P.underlying t = some (.array len e)) (hlen : Nat.beq len l.length = true) (hsz : sizeT P e = some 1) (h : lat l n = some v) : pureE P env (.indexAddr t x i) = some (.ptr id (off + n.toNat)) := by
  unfold lat at h
  cases hd : decide (0 ≤ n) with
  | false => rw [hd] at h; cases h
  | true =>
    rw [hd] at h
    simp only [cond_true] at h
    have hlt := (List.getElem?_eq_some_iff.1 h).1
    have h0 := of_decide_eq_true hd
    have hlen := Nat.eq_of_beq_eq_true hlen
    unfold pureE
    simp only [hx, hi]
    unfold indexAddrA
    rw [hu]
    simp only [hsz]
    have hin : inRange n len = true := by simp [inRange]; omega
    rw [hin]
    simp only [if_true, Nat.mul_one]
theorem rd_arr {n : Int} {l : List α} {v : α} {e' : TypeId} (hsz : sizeT P e = some 1) (hag : isAggT P e = some false) (hl : Nat.beq e' LOOP = false) (hone : (f v).isOne = true) (h : lat l n = some v) : rdB P e (0 + n.toNat) e' (l.map f) = some (f v) := by
  unfold lat at h
  cases hd : decide (0 ≤ n) with
  | false => rw [hd] at h; cases h
  | true =>
    rw [hd] at h
    simp only [cond_true] at h
    have hlt := (List.getElem?_eq_some_iff.1 h).1
    unfold rdB
    rw [hsz]
    simp only [hl, cond_false]
    have hle : Nat.ble (0 + n.toNat + 1) (l.map f).length = true := Nat.ble_eq.mpr (by rw [List.length_map]; omega)
    rw [hle]
    simp only [cond_true]
    unfold ofCells
    rw [hag]
    have hd : ((l.map f).drop (0 + n.toNat)).take 1 = [f v] := by
      rw [Nat.zero_add, ← List.map_drop, ← List.map_take]
      rw [List.drop_eq_getElem_cons hlt]
      have := (List.getElem?_eq_some_iff.1 h).2
      rw [this]; rfl
    rw [hd]
    simp only [hone, if_true]
/-- A place of an array that is told by a number. -/
theorem idxp_lit {n : Int} {id off k sz len : Nat} (hx : opE env x = some (.ptr id off)) (hi : opE env i = some (.int kd n)) (hn : n = (k : Int)) (hu : P.underlying t = some (.array len e)) (hsz : sizeT P e = some sz) (hin : inRange (k : Int) len = true) : pureE P env (.indexAddr t x i) = some (.ptr id (off + k * sz)) := by
  subst hn
  unfold pureE
  simp only [hx, hi]
  unfold indexAddrA
  rw [hu]
  simp only [hsz, hin, if_true, Int.toNat_natCast]
/-- An error beside nil. -/
theorem eq_nili {b : Bool} {t' : TypeId} {v : AV} (hx : opE env x = some (cond b .nili (.iface t' v))) (hu : P.underlying t = some (.interface [].toArray) ∨ ∃ ms, P.underlying t = some (.interface ms)) : pureE P env (.binOp .eql t x (.const .nilIface) ty) = some (.bool b) := by
  obtain ⟨ms, hu⟩ : ∃ ms, P.underlying t = some (.interface ms) := by rcases hu with h | h; exact ⟨_, h⟩; exact h
  unfold pureE
  simp only [hx, show opE env (.const .nilIface) = some .nili from rfl]
  cases b with
  | true =>
    show binOpA P .eql t x _ .nili .nili = _
    unfold binOpA
    simp only
    have : (plainA .nili && eqGuardA P t x (.const .nilIface) .nili .nili) = true := by
      simp [plainA, eqGuardA, isConst]
    rw [if_pos this]
    unfold eqIn
    rw [hu]
    rfl
  | false =>
    show binOpA P .eql t x _ (.iface t' v) .nili = _
    unfold binOpA
    simp only
    have : (plainA (.iface t' v) && eqGuardA P t x (.const .nilIface) (.iface t' v) .nili) = true := by
      simp [plainA, eqGuardA]
    rw [if_pos this]
    unfold eqIn
    rw [hu]
    rfl

/-! ### values of several cells beside each other -/
theorem eqf_nil {g : TypeId → AV → AV → Option Bool} {xs ys : List AV} : eqFields g P [] xs ys = some true := rfl
theorem eqf_cons {g : TypeId → AV → AV → Option Bool} {xs ys : List AV} {fd : Field} {r : List Field} {a b : AV} {b1 b2 : Bool} (hn : decide (fd.name = "_") = false) (hx : partA P fd.type xs fd.offset = some a) (hy : partA P fd.type ys fd.offset = some b) (h1 : g fd.type a b = some b1) (h2 : eqFields g P r xs ys = some b2) : eqFields g P (fd :: r) xs ys = some (b1 && b2) := by
  unfold eqFields
  rw [if_neg (of_decide_eq_false hn), hx, hy]
  simp only
  rw [h1]
  cases b1 with
  | true => exact h2
  | false => rfl
theorem eqe_nil {g : TypeId → AV → AV → Option Bool} {xs ys : List AV} {n i : Nat} : eqElems g P e n xs ys i 0 = some true := rfl
theorem eqe_cons {g : TypeId → AV → AV → Option Bool} {xs ys : List AV} {n i k : Nat} {a b : AV} {b1 b2 : Bool} (hx : partA P e xs (i * n) = some a) (hy : partA P e ys (i * n) = some b) (h1 : g e a b = some b1) (h2 : eqElems g P e n xs ys (i + 1) k = some b2) : eqElems g P e n xs ys i (k + 1) = some (b1 && b2) := by
  unfold eqElems
  rw [hx, hy]
  simp only
  rw [h1]
  cases b1 with
  | true => exact h2
  | false => rfl
theorem eqIn_struct {d : Nat} {xs ys : List AV} {fs : Array Field} {b : Bool} (hu : P.underlying t = some (.struct fs)) (hs : P.stoodInHeld t = false) (h : eqFields (eqIn P d) P fs.toList xs ys = some b) : eqIn P (d + 1) t (.agg xs) (.agg ys) = some b := by
  unfold eqIn
  rw [hu]
  simp only
  rw [hs]
  exact h
theorem eqIn_array {d : Nat} {xs ys : List AV} {len n : Nat} {b : Bool} (hu : P.underlying t = some (.array len e)) (hsz : sizeT P e = some n) (h : eqElems (eqIn P d) P e n xs ys 0 len = some b) : eqIn P (d + 1) t (.agg xs) (.agg ys) = some b := by
  unfold eqIn
  rw [hu]
  simp only
  rw [hsz]
  exact h
theorem eqIn_int {d : Nat} {k : IntKind} {a b : Int} {k' : IntKind} (hu : P.underlying t = some (.int k')) : eqIn P (d + 1) t (.int k a) (.int k b) = some (a == b) := by
  unfold eqIn
  rw [hu]
  simp only
  rw [if_pos trivial]
theorem eqIn_str {d : Nat} {a b : Bs} (hu : P.underlying t = some .string) : eqIn P (d + 1) t (.str a) (.str b) = some (a == b) := by
  unfold eqIn
  rw [hu]
theorem eq_agg {xs ys : List AV} {b : Bool} (hx : opE env x = some (.agg xs)) (hy : opE env y = some (.agg ys)) (hg : P.eqGuardType P.depth t = false) (h : eqIn P 10000 t (.agg xs) (.agg ys) = some b) : pureE P env (.binOp .eql t x y ty) = some (.bool b) := by
  unfold pureE
  simp only [hx, hy]
  unfold binOpA
  simp only
  have : (plainA (.agg xs) && eqGuardA P t x y (.agg xs) (.agg ys)) = true := by simp [plainA, eqGuardA, hg]
  rw [if_pos this, h]
  rfl
theorem neq_agg {xs ys : List AV} {b : Bool} (hx : opE env x = some (.agg xs)) (hy : opE env y = some (.agg ys)) (hg : P.eqGuardType P.depth t = false) (h : eqIn P 10000 t (.agg xs) (.agg ys) = some b) : pureE P env (.binOp .neq t x y ty) = some (.bool (!b)) := by
  unfold pureE
  simp only [hx, hy]
  unfold binOpA
  simp only
  have : (plainA (.agg xs) && eqGuardA P t x y (.agg xs) (.agg ys)) = true := by simp [plainA, eqGuardA, hg]
  rw [if_pos this, h]
  rfl
end

section
variable {P : Program} {K : Know} {nt : Nat} {md : Md} {ops r : List Oper} {env : Env} {H : Hp} {sl : List Nat} {cl : Cl} {Q : K4} {α : Type} {f : α → AV}
theorem tail_sl {e ts tx : TypeId} {y : Sl α} (hu : P.underlying ts = some (.slice e)) (ht : ts = tx) : tailA P e ts tx (Sl.enc e f y) = some (y.els.map f) := by
  subst ht
  unfold tailA
  rw [hu]
  cases y with
  | none => simp [Sl.enc, Sl.els]
  | some p => simp [Sl.enc, Sl.els]
/-- A slice that is one's own, or nil, appended to. -/
theorem O_app {sl' : List Nat} {d t : Nat} {y : Operand} {args : Array Operand} {at_ : Array TypeId} {ts tx e : TypeId} {s z : Sl α} {b : AV} (ys : Sl α) {i : TypeInfo} {zz : List AV} {ty : TypeId} {pos : String} {af : Array Edge} {g : Option (Nat × Bool)} (hw : wantE ops env g = some true)
    (har : args.toList = [.tmp t, y]) (hat : at_.toList = [ts, tx]) (hu : P.underlying ts = some (.slice e)) (hx : lookE env t = some (Sl.enc e f s)) (hy : opE env y = some b) (ht : tailA P e ts tx b = some (ys.els.map f)) (hi : P.info? e = some i) (hz : zeroT P e = some zz)
    (ho : has sl t = true) (hsz : Nat.blt 0 i.size = true) (hzs : Nat.beq zz.length i.size = true) (happ : s.app i.bytes ys = some z) (hmut : slElem P ⟨some d, .call { callee := .builtin .append, args := args, argTypes := at_ }, ty, pos, af, g⟩ = none) (hd : Nat.blt d nt = true) (hsl : d :: drp (drp sl t) d = sl')
    (k : O P K nt md ops r ((d, Sl.enc e f z) :: env) H sl' cl Q) : O P K nt md ops (⟨some d, .call { callee := .builtin .append, args := args, argTypes := at_ }, ty, pos, af, g⟩ :: r) env H sl cl Q := by
  unfold Sl.app at happ
  match s, hx, happ with
  | none, hx, happ =>
    simp only at happ
    split at happ
    · rename_i hb
      have happ := Option.some.inj happ
      subst happ
      refine O_appendN (ys.els.map f) hw har hat hu (x := .tmp t) hx hy ht hi hz (by rw [List.length_map]; exact hb.1) (by rw [List.length_map]; exact hb.2) hsz hzs hmut hd (fun q hq => ?_) k
      rw [← hsl] at hq
      rcases List.mem_cons.1 hq with h | h
      · exact .inl h
      · have h1 := mem_drp.1 h
        have h2 := mem_drp.1 h1.1
        exact .inr ⟨h2.1, fun e => by injection e with e; exact h2.2 e, fun e => h1.2 e.symm⟩
    · cases happ
  | some (xs, []), hx, happ =>
    simp only at happ
    split at happ
    · rename_i hb
      have happ := Option.some.inj happ
      subst happ
      refine O_append (ys.els.map f) hw har hat hu hx hy ht hi hz ho (by rw [List.length_map, List.length_map]; exact hb.1) (by rw [List.length_map, List.length_map]; exact hb.2) hsz hzs hmut hd hsl ?_
      rw [← List.map_append]
      exact k
    · cases happ
  | some (_, _ :: _), hx, happ => cases happ
end
section
variable {P : Program} {K : Know} {vars : Nat → List Nat} {nt : Nat} {env : Env} {H : Hp} {sl : List Nat} {cl : Cl} {Q : K6}
theorem C_drawB {id : Nat} {ops : Array Oper} (l : Option (List Nat)) {m : Bool} {q : Nat} (hl : lateWE ops.toList env = some l) (hm : mixed ops.toList = m) (hq : allocs ops.toList = q)
    (h : ∀ b H1, H.length = b → H ++ List.replicate q none = H1 → O P K nt (.draw b l m) ops.toList ops.toList env H1 sl cl fun env' H' sl' cl' => Q .normal (keepE (vars id) env') H' (keepS (vars id) sl') cl') : C P K vars nt (.region id ops true) env H sl cl Q :=
  C_draw l hl hm hq fun b hb => h b _ hb rfl
theorem C_draw0 {id : Nat} {ops : Array Oper} (l : Option (List Nat)) {m : Bool} (hl : lateWE ops.toList env = some l) (hm : mixed ops.toList = m) (hq : allocs ops.toList = 0)
    (h : ∀ b, H.length = b → O P K nt (.draw b l m) ops.toList ops.toList env H sl cl fun env' H' sl' cl' => Q .normal (keepE (vars id) env') H' (keepS (vars id) sl') cl') : C P K vars nt (.region id ops true) env H sl cl Q :=
  C_draw l hl hm hq fun b hb => by
    have := h b hb
    rw [List.replicate_zero, List.append_nil]
    exact this
theorem resM_cons {r : ResultVar} {rs : List ResultVar} {v : AV} {vs : List AV} (h : resE P env H r = some v) (k : rs.mapM (resE P env H) = some vs) : (r :: rs).mapM (resE P env H) = some (v :: vs) := by
  rw [List.mapM_cons, h, k]; rfl
theorem resM_nil : ([] : List ResultVar).mapM (resE P env H) = some [] := rfl
theorem ress_two {r1 r2 : ResultVar} {rs : List ResultVar} {vs : List AV} (h : (r1 :: r2 :: rs).mapM (resE P env H) = some vs) : ressE P env H (r1 :: r2 :: rs) = some (.tup vs) := by
  show ((r1 :: r2 :: rs).mapM (resE P env H)).map AV.tup = _
  rw [h]; rfl
theorem Own.sub {lo : Nat} {cl cl' : Cl} {H : Hp} {id : Nat} (h : Own lo cl H id) (k : ∀ p, p ∈ cl' → p ∈ cl) : Own lo cl' H id := ⟨h.lo, h.ge, fun i o hp => h.cl i o (k _ hp)⟩
theorem Fit.sub {lo : Nat} {cl cl' : Cl} {H : Hp} (h : Fit lo cl H) (k : ∀ p, p ∈ cl' → p ∈ cl) : Fit lo cl' H := ⟨h.lo, fun i o hp => h.cl i o (k _ hp)⟩
end
/-- Behind a statement only some slots are looked at, and what stands there is told once, however it came there. -/
def joinQ (vs : List Nat) (Post : K4) (Q : K6) : K6 := fun e env H sl cl =>
  match e with
  | .normal => Post (keepE vs env) H (keepS vs sl) cl
  | .exit i => Q (.exit i) env H sl cl
  | .ret => Q .ret env H sl cl
section
variable {P : Program} {K : Know} {vars : Nat → List Nat} {nt : Nat} {env : Env} {H : Hp} {sl : List Nat} {cl : Cl} {Q : K6}
theorem sm_keep' {vs : List Nat} {st : St} (h : Sm env H sl cl st) : Sm (keepE vs env) H (keepS vs sl) cl st :=
  ⟨fun s v hv => h.env s v (look_keepE env vs s v hv).2, h.H, h.own.sub (fun s hs => by unfold keepS at hs; exact (List.mem_filter.1 hs).1) (fun _ h => h)⟩
theorem C_join {a b : Code} (vs : List Nat) (Post : K4) (h : C P K vars nt a env H sl cl (joinQ vs Post Q)) (k : ∀ env' H' sl' cl', Post env' H' sl' cl' → C P K vars nt b env' H' sl' cl' Q) : C P K vars nt (.seq a b) env H sl cl Q := by
  refine C_seq ⟨fun st hs => ?_⟩
  obtain ⟨e, env', H', sl', cl', st', h1, h2, h3⟩ := h.to st hs
  cases e with
  | normal =>
    have h1 : Post (keepE vs env') H' (keepS vs sl') cl' := h1
    exact ⟨.normal, _, _, _, _, st', k _ _ _ _ h1, sm_keep' h2, h3⟩
  | exit i => exact ⟨.exit i, _, _, _, _, st', h1, h2, h3⟩
  | ret => exact ⟨.ret, _, _, _, _, st', h1, h2, h3⟩
def roundQ (n : Nat) (vs : List Nat) (Inv : Nat → K4) (L : Nat) (ve : List Nat) (Post : K4) (Q : K6) : K6 := fun e env H sl cl =>
  match e with
  | .normal => ∃ m, m < n ∧ Inv m (keepE vs env) H (keepS vs sl) cl
  | .exit i => match Nat.beq i L with
    | true => Post (keepE ve env) H (keepS ve sl) cl
    | false => Q (.exit i) env H sl cl
  | .ret => Q .ret env H sl cl
/-- A loop. -/
theorem C_loopE {c : Code} (vs : List Nat) (Inv : Nat → K4) (L : Nat) (ve : List Nat) (Post : K4) (n : Nat) (h0 : Inv n (keepE vs env) H (keepS vs sl) cl)
    (step : ∀ n env H sl cl, Inv n env H sl cl → C P K vars nt c env H sl cl (roundQ n vs Inv L ve Post Q))
    (k : ∀ env' H' sl' cl', Post env' H' sl' cl' → Q (.exit L) env' H' sl' cl') : C P K vars nt (.loop c) env H sl cl Q := by
  have key : ∀ (n m : Nat), m ≤ n → ∀ env H sl cl, Inv m env H sl cl → C P K vars nt (.loop c) env H sl cl Q := by
    intro n
    induction n with
    | zero =>
      intro m hm env H sl cl hi
      refine C_round ⟨fun st hs => ?_⟩
      obtain ⟨e, env', H', sl', cl', st', h1, h2, h3⟩ := (step m env H sl cl hi).to st hs
      cases e with
      | normal => obtain ⟨m', hlt, _⟩ := h1; omega
      | exit i =>
        have h4 : (match Nat.beq i L with | true => Post (keepE ve env') H' (keepS ve sl') cl' | false => Q (.exit i) env' H' sl' cl') := h1
        cases hb : Nat.beq i L with
        | true =>
          rw [hb] at h4
          have e := Nat.eq_of_beq_eq_true hb
          exact ⟨.exit i, _, _, _, _, st', e ▸ k _ _ _ _ h4, sm_keep' h2, h3⟩
        | false => rw [hb] at h4; exact ⟨.exit i, _, _, _, _, st', h4, h2, h3⟩
      | ret => exact ⟨.ret, _, _, _, _, st', h1, h2, h3⟩
    | succ n ih =>
      intro m hm env H sl cl hi
      refine C_round ⟨fun st hs => ?_⟩
      obtain ⟨e, env', H', sl', cl', st', h1, h2, h3⟩ := (step m env H sl cl hi).to st hs
      cases e with
      | normal =>
        obtain ⟨m', hlt, h1⟩ := h1
        exact ⟨.normal, _, _, _, _, st', ih m' (by omega) _ _ _ _ h1, sm_keep' h2, h3⟩
      | exit i =>
        have h4 : (match Nat.beq i L with | true => Post (keepE ve env') H' (keepS ve sl') cl' | false => Q (.exit i) env' H' sl' cl') := h1
        cases hb : Nat.beq i L with
        | true =>
          rw [hb] at h4
          have e := Nat.eq_of_beq_eq_true hb
          exact ⟨.exit i, _, _, _, _, st', e ▸ k _ _ _ _ h4, sm_keep' h2, h3⟩
        | false => rw [hb] at h4; exact ⟨.exit i, _, _, _, _, st', h4, h2, h3⟩
      | ret => exact ⟨.ret, _, _, _, _, st', h1, h2, h3⟩
  exact C_keep vs (key n n (Nat.le_refl _) _ _ _ _ h0)
end
theorem Sl.cells_enc {α : Type} {e : TypeId} {f : α → AV} {s : Sl α} : (Sl.enc e f s).cells = [Sl.enc e f s] := by cases s <;> rfl
theorem Sl.one_enc {α : Type} {e : TypeId} {f : α → AV} {s : Sl α} : (Sl.enc e f s).isOne = true := by cases s <;> rfl
theorem resE_cell {P : Program} {env : Env} {H : Hp} {a : Nat} {t : TypeId} {id off : Nat} {b : Blk} {v : AV} (hl : lookE env a = some (.ptr id off)) (hb : H[id]? = some (some b)) (hv : rdB P t off b.e b.cs = some v) : resE P env H (.cell a t) = some v := by
  simp only [resE, hl]
  exact rdB_to hb hv
theorem ress_one {P : Program} {env : Env} {H : Hp} {r : ResultVar} {v : AV} (h : resE P env H r = some v) : ressE P env H [r] = some v := h
/-- What is kept, told in full. -/
theorem keep_to {Q : K6} {vs : List Nat} {env : Env} {sl : List Nat} {H : Hp} {cl : Cl} (env2 : Env) (sl2 : List Nat) (h1 : keepE vs env = env2) (h2 : keepS vs sl = sl2) (k : Q .normal env2 H sl2 cl) : Q .normal (keepE vs env) H (keepS vs sl) cl := by
  rw [h1, h2]; exact k
/-! ### loops over functions, walked in place -/
theorem getRec_of {H : Hp} {id s k x : Nat} {y : AV} (h : H[id]? = some (recA s k x y)) : getRec H id = some (s, k, x, y) := by
  unfold getRec
  rw [h]
  rfl
section
variable {P : Program} {K : Know} {nt : Nat} {vars : Nat → List Nat} {ops r : List Oper} {env : Env} {H : Hp} {sl : List Nat} {cl : Cl}
theorem O_yieldC {Q : K4} {sl' : List Nat} {d : Nat} {f : Operand} {id : Nat} {args : Array Operand} {at_ : Array TypeId} (vs : List AV) {ty : TypeId} {pos : String} {af : Array Edge} {g : Option (Nat × Bool)} (hw : wantE ops env g = some true) (hf : opE env f = some (.yld id)) (hv : opsE env args.toList = some vs)
    (hd : Nat.blt d nt = true) (hsl : drp sl d = sl') (hc : YieldsR P K id vs H cl fun x H' cl' => O P K nt .plain ops r ((d, x) :: env) H' sl' cl' Q) : O P K nt .plain ops (⟨some d, .call { callee := .value f, args := args, argTypes := at_ }, ty, pos, af, g⟩ :: r) env H sl cl Q :=
  O_yield vs hw hf hv hd hsl hc fun _ _ _ h => h
/-- What is asked of a round. -/
def recQ1 (P : Program) (K : Know) (vars : Nat → List Nat) (nt : Nat) (id : Nat) (body : Code) (R : AV → Hp → Cl → Prop) : K6 := fun e env1 H1 sl1 cl1 =>
  match e with
  | .normal => ∃ x1 y1, H1[id]? = some (recA 0 0 x1 y1) ∧ ∀ H2, H1.set id (recA 1 0 0 y1) = H2 → C P K vars nt body env1 H2 sl1 cl1 fun e env2 H3 sl2 cl2 => ∃ s k x y, H3[id]? = some (recA s k x y) ∧ ∀ H4, H3.set id (recE e y) = H4 → R (.bool (exA e)) H4 cl2
  | _ => False
theorem yields_byY {id x0 : Nat} {env0 : List (Nat × AV)} {ps : List Nat} {assign body : Code} {args : List AV} {R : AV → Hp → Cl → Prop} {y0 : AV} (hlo : Nat.ble K.lo id = true) (hy : y0 = .rcd vars nt env0 ps assign body) (hr : H[id]? = some (recA 0 0 x0 y0)) (he : EnvLe env env0) (hlen : (Nat.beq args.length ps.length && ps.all fun p => Nat.blt p nt) = true)
    (h : C P K vars nt assign (putAll ps args env) H [] cl (recQ1 P K vars nt id body R)) : YieldsR P K id args H cl R := by
  subst hy
  refine yields_by hlo (getRec_of hr) he hlen (C_mono h ?_)
  intro e env' H' sl' cl' hq
  cases e with
  | normal =>
    obtain ⟨x1, y1, h1, h2⟩ := hq
    refine ⟨x1, y1, getRec_of h1, C_mono (h2 _ rfl) ?_⟩
    rintro e2 env2 H3 sl2 cl2 ⟨s, k, x, y, h3, h4⟩
    exact ⟨s, k, x, y, getRec_of h3, h4 _ rfl⟩
  | exit i => exact hq
  | ret => exact hq
/-- What the end of a function that is ranged over is asked. -/
def rangeQ (id : Nat) (env : Env) (sl : List Nat) (Q : K6) : AV → Hp → Cl → Prop := fun x H1 cl1 => ∃ s k xx y, H1[id]? = some (recA s k xx y) ∧ Nat.beq s 1 = false ∧ ∀ H2, H1.set id (recA 3 k xx y) = H2 → Q (endE k xx) env H2 sl cl1
theorem C_rangeB {Q : K6} {gq : Operand} {f : FuncId} {cap : List AV} {ps : Array Tmp} {assign body : Code} (hg : opE env gq = some (.fn f cap)) (hn : (noRange assign && noRange body) = true) (hb : hasBody P f = true)
    (h : ∀ id env' H1 y0, H.length = id → EnvLe env env' → H ++ [recA 0 0 0 y0] = H1 → y0 = .rcd vars nt env' ps.toList assign body → CallsR P K f (.yld id :: cap) H1 cl (rangeQ id env sl Q)) :
    C P K vars nt (.rangeFunc gq ps assign body) env H sl cl Q := by
  refine C_range hg hn hb fun id env' hid hle => ?_
  refine (h id env' _ _ hid hle rfl rfl).mono ?_
  rintro x H1 cl1 ⟨s, k, xx, y, h1, h2, h3⟩
  exact ⟨s, k, xx, y, getRec_of h1, h2, h3 _ rfl⟩
end
def NotIn (id : Nat) : List Nat → Prop
  | [] => True
  | x :: r => id ≠ x ∧ NotIn id r
theorem NotIn.any {id : Nat} : ∀ {ws : List Nat}, NotIn id ws → ws.any (Nat.beq id) = false
  | [], _ => rfl
  | x :: r, h => by
    rw [List.any_cons, NotIn.any h.2, Bool.or_false]
    cases hb : Nat.beq id x with
    | false => rfl
    | true => exact absurd (Nat.eq_of_beq_eq_true hb) h.1
theorem lt_base {H : Hp} {id b : Nat} {x : Option Blk} (h : H[id]? = some x) (e : H.length = b) : id < b := by have := (List.getElem?_eq_some_iff.1 h).1; omega
theorem lateL_of {b id : Nat} {ws : List Nat} {m : Bool} (h : id < b) (k : NotIn id ws) : lateL (.draw b (some ws) m) id = true := by
  show (Nat.blt id b && !(ws.any (Nat.beq id))) = true
  rw [k.any, Nat.blt_eq.mpr h]; rfl
theorem lateS_of {b id : Nat} {ws : List Nat} {m : Bool} (h : id ∈ ws) : lateS (.draw b (some ws) m) id = true := by
  show (Nat.ble b id || ws.any (Nat.beq id)) = true
  have : ws.any (Nat.beq id) = true := List.any_eq_true.2 ⟨id, h, Nat.beq_refl id⟩
  rw [this, Bool.or_true]
/-! ### a cell whose list, where it is not nil, has an end that is one's own -/
def clq {α : Type} (s : Sl α) (id o : Nat) (cl : Cl) : Cl :=
  match s with
  | none => cl
  | some _ => (id, o) :: cl
theorem mem_clq {α : Type} {s : Sl α} {id o : Nat} {cl : Cl} {i k : Nat} (h : (i, k) ∈ clq s id o cl) : (i = id ∧ k = o) ∨ (i, k) ∈ cl := by
  cases s with
  | none => exact .inr h
  | some p =>
    rcases List.mem_cons.1 h with e | h
    · injection e with e1 e2; exact .inl ⟨e1, e2⟩
    · exact .inr h
theorem clq_sub {α : Type} {s : Sl α} {id o : Nat} {cl : Cl} {p : Nat × Nat} (h : p ∈ cl) : p ∈ clq s id o cl := by
  cases s with
  | none => exact h
  | some q => exact List.mem_cons_of_mem _ h
theorem Fit.q {α : Type} {s : Sl α} {a k lo : Nat} {cl : Cl} {H : Hp} {x : Option Blk} (h : Fit lo cl H) (hx : H[a]? = some x) : Fit lo (clq s a k cl) H :=
  ⟨h.lo, fun i o hm => by
    rcases mem_clq hm with ⟨e, _⟩ | hm
    · rw [e]; exact (List.getElem?_eq_some_iff.1 hx).1
    · exact h.cl i o hm⟩
theorem C_cl {P : Program} {K : Know} {vars : Nat → List Nat} {nt : Nat} {c : Code} {env : Env} {H : Hp} {sl : List Nat} {cl cl1 : Cl} {Q : K6} (h : ∀ p, p ∈ cl1 → p ∈ cl) (k : C P K vars nt c env H sl cl1 Q) : C P K vars nt c env H sl cl Q :=
  C_weak k (fun _ _ h => h) (fun _ h => h) h
theorem O_appNil {P : Program} {K : Know} {nt : Nat} {md : Md} {ops r : List Oper} {env : Env} {H : Hp} {sl : List Nat} {cl : Cl} {Q : K4} {α : Type} {f : α → AV} {sl' : List Nat} {d t : Nat} {y : Operand} {args : Array Operand} {at_ : Array TypeId} {ts tx e : TypeId} {z : Sl α} {b : AV} (ys : Sl α) {i : TypeInfo} {zz : List AV} {ty : TypeId} {pos : String} {af : Array Edge} {g : Option (Nat × Bool)} (hw : wantE ops env g = some true)
    (har : args.toList = [.tmp t, y]) (hat : at_.toList = [ts, tx]) (hu : P.underlying ts = some (.slice e)) (hx : lookE env t = some .nils) (hy : opE env y = some b) (ht : tailA P e ts tx b = some (ys.els.map f)) (hi : P.info? e = some i) (hz : zeroT P e = some zz)
    (hsz : Nat.blt 0 i.size = true) (hzs : Nat.beq zz.length i.size = true) (happ : Sl.app i.bytes none ys = some z) (hmut : slElem P ⟨some d, .call { callee := .builtin .append, args := args, argTypes := at_ }, ty, pos, af, g⟩ = none) (hd : Nat.blt d nt = true) (hsl : d :: drp (drp sl t) d = sl')
    (k : O P K nt md ops r ((d, Sl.enc e f z) :: env) H sl' cl Q) : O P K nt md ops (⟨some d, .call { callee := .builtin .append, args := args, argTypes := at_ }, ty, pos, af, g⟩ :: r) env H sl cl Q := by
  unfold Sl.app at happ
  simp only at happ
  split at happ
  · rename_i hb
    have happ := Option.some.inj happ
    subst happ
    refine O_appendN (ys.els.map f) hw har hat hu (x := .tmp t) hx hy ht hi hz (by rw [List.length_map]; exact hb.1) (by rw [List.length_map]; exact hb.2) hsz hzs hmut hd (fun q hq => ?_) k
    rw [← hsl] at hq
    rcases List.mem_cons.1 hq with h | h
    · exact .inl h
    · have h1 := mem_drp.1 h
      have h2 := mem_drp.1 h1.1
      exact .inr ⟨h2.1, fun e => by injection e with e; exact h2.2 e, fun e => h1.2 e.symm⟩
  · cases happ
/-! ### the same rules, shortly -/
theorem getA {H H1 E : Hp} {i : Nat} {a : Option Blk} (h : H ++ E = H1) (k : H[i]? = some a) : H1[i]? = some a := by subst h; exact get_app k _
theorem getS {H H1 : Hp} {id j : Nat} {b x : Option Blk} (h : H.set id b = H1) (n : j ≠ id) (k : H[j]? = some x) : H1[j]? = some x := by subst h; exact get_set_ne k n _
theorem getL {H H1 : Hp} {id : Nat} {a : Option Blk} (hi : H.length = id) (h : H ++ [a] = H1) : H1[id]? = some a := by subst hi h; exact get_last _ _
theorem getW {H H1 : Hp} {id : Nat} {b x : Option Blk} (h : H.set id b = H1) (k : H[id]? = some x) : H1[id]? = some b := by subst h; exact get_set_same k _
theorem kpA {W : List Nat} {H0 H H1 E : Hp} (h : H ++ E = H1) (k : Kp W H0 H) : Kp W H0 H1 := by subst h; exact k.app _
theorem kpS {W : List Nat} {H0 H H1 : Hp} {id : Nat} {b : Option Blk} (h : H.set id b = H1) (o : H0.length ≤ id) (k : Kp W H0 H) : Kp W H0 H1 := by subst h; exact k.set o _
theorem kpW {W : List Nat} {H0 H H1 : Hp} {id : Nat} {b : Option Blk} (h : H.set id b = H1) (o : id ∈ W) (k : Kp W H0 H) : Kp W H0 H1 := by subst h; exact k.setW o _
theorem getZ {H H1 : Hp} {b q m : Nat} (h : H ++ List.replicate m none = H1) (e : H.length = b) (hq : q < m) : H1[b + q]? = some none := by subst h; exact get_fill e hq
section
variable {P : Program} {K : Know} {nt : Nat} {md : Md} {ops r : List Oper} {env : Env} {H : Hp} {sl : List Nat} {cl : Cl} {Q : K4} {d : Nat} {ty : TypeId} {pos : String} {af : Array Edge} {g : Option (Nat × Bool)}
theorem oP {op : Op} (v : AV) (k : O P K nt md ops r ((d, v) :: env) H (drp sl d) cl Q) (hw : wantE ops env g = some true := by rfl) (hp : pureE P env op = some v := by rfl) (hd : Nat.blt d nt = true := by rfl) : O P K nt md ops (⟨some d, op, ty, pos, af, g⟩ :: r) env H sl cl Q := O_pure v hw hp hd rfl k
theorem oQ {op : Op} (v : AV) (hp : pureE P env op = some v) (k : O P K nt md ops r ((d, v) :: env) H (drp sl d) cl Q) (hw : wantE ops env g = some true := by rfl) (hd : Nat.blt d nt = true := by rfl) : O P K nt md ops (⟨some d, op, ty, pos, af, g⟩ :: r) env H sl cl Q := O_pure v hw hp hd rfl k
theorem oM {s : Nat} (v : AV) (k : O P K nt md ops r ((d, v) :: env) H (drp sl d) cl Q) (hw : wantE ops env g = some true := by rfl) (hx : lookE env s = some v := by rfl) (ha : appSrc ops d = false := by rfl) (hd : Nat.blt d nt = true := by rfl) : O P K nt md ops (⟨some d, .move (.tmp s), ty, pos, af, g⟩ :: r) env H sl cl Q := O_move v hw hx ha hd rfl k
theorem oC {x : Operand} (v : AV) (k : O P K nt md ops r ((d, v) :: env) H (drp sl d) cl Q) (hw : wantE ops env g = some true := by rfl) (hx : opE env x = some v := by rfl) (hn : isSlot x = false := by rfl) (hd : Nat.blt d nt = true := by rfl) : O P K nt md ops (⟨some d, .move x, ty, pos, af, g⟩ :: r) env H sl cl Q := O_moveC v hw hx hn hd rfl k
theorem oA {s : Nat} (v : AV) (k : O P K nt md ops r ((d, v) :: env) H (putSl (drp sl s) (has sl s) d) cl Q) (hw : wantE ops env g = some true := by rfl) (hx : lookE env s = some v := by rfl) (hd : Nat.blt d nt = true := by rfl) : O P K nt md ops (⟨some d, .assign (.tmp s), ty, pos, af, g⟩ :: r) env H sl cl Q := O_asg v hw hx hd rfl k
theorem oB {x : Operand} (v : AV) (k : O P K nt md ops r ((d, v) :: env) H (putSl sl (isNils v) d) cl Q) (hw : wantE ops env g = some true := by rfl) (hx : opE env x = some v := by rfl) (hn : isSlot x = false := by rfl) (hd : Nat.blt d nt = true := by rfl) : O P K nt md ops (⟨some d, .assign x, ty, pos, af, g⟩ :: r) env H sl cl Q := O_asgC v hw hx hn hd rfl k
theorem oL {t : TypeId} {x : Operand} {id off : Nat} {b : Blk} (v : AV) (hb : H[id]? = some (some b)) (k : O P K nt md ops r ((d, v) :: env) H (drp sl d) cl Q) (hw : wantE ops env g = some true := by rfl) (hx : opE env x = some (.ptr id off) := by rfl) (hv : rdB P t off b.e b.cs = some v := by rfl)
    (hl : lateL md id = true := by rfl) (hd : Nat.blt d nt = true := by rfl) (ha : appSrc ops d = false := by rfl) : O P K nt md ops (⟨some d, .load t x, ty, pos, af, g⟩ :: r) env H sl cl Q := O_load v hw hx hb hv hl hd rfl (fun p h => ⟨h, fun e => by rw [ha] at e; cases e⟩) k
theorem oE {t : TypeId} {x : Operand} {cs : List AV} {off : Nat} (v : AV) (k : O P K nt md ops r ((d, v) :: env) H (drp sl d) cl Q) (hw : wantE ops env g = some true := by rfl) (hx : opE env x = some (.ept cs off) := by rfl) (hv : loadA P [] t (.ept cs off) = some v := by rfl) (hd : Nat.blt d nt = true := by rfl) : O P K nt md ops (⟨some d, .load t x, ty, pos, af, g⟩ :: r) env H sl cl Q := O_loadE v hw hx hv hd rfl k
theorem oK {f : Operand} {gn : FuncId} {cap : List AV} {args : Array Operand} {at_ : Array TypeId} (vs : List AV) {R : AV → Hp → Cl → Prop} (hc : CallsR P (md.know K H) gn (vs ++ cap) H cl R) (k : ∀ x H' cl', R x H' cl' → O P K nt md ops r ((d, x) :: env) H' (drp sl d) cl' Q)
    (hw : wantE ops env g = some true := by rfl) (hf : opE env f = some (.fn gn cap) := by rfl) (hv : opsE env args.toList = some vs := by rfl) (hb : hasBody P gn = true := by rfl) (hab : md.above K H = true := by rfl) (hd : Nat.blt d nt = true := by rfl) : O P K nt md ops (⟨some d, .call { callee := .value f, args := args, argTypes := at_ }, ty, pos, af, g⟩ :: r) env H sl cl Q := O_call vs hw hf hv hb hab hd rfl hc k
end
theorem oN {P : Program} {e : TypeId} {x : Operand} {K : Know} {nt : Nat} {ops r : List Oper} {env : Env} {H : Hp} {sl : List Nat} {cl : Cl} {Q : K4} {d : Nat} {ty : TypeId} {pos : String} {af : Array Edge} {g : Option (Nat × Bool)} (v : AV) (k : ∀ id H', H.length = id → H ++ [some ⟨e, v.cells⟩] = H' → O P K nt .plain ops r ((d, .ptr id 0) :: env) H' (drp sl d) cl Q) (hw : wantE ops env g = some true := by rfl) (hx : opE env x = some v := by rfl) (he : Nat.beq e LOOP = false := by rfl) (hn : Nat.blt 0 v.cells.length = true := by rfl) (hd : Nat.blt d nt = true := by rfl) : O P K nt .plain ops (⟨some d, .box e x, ty, pos, af, g⟩ :: r) env H sl cl Q := O_box v hw hx he hn hd rfl k
theorem oZ {P : Program} {e : TypeId} {K : Know} {nt : Nat} {ops r : List Oper} {env : Env} {H : Hp} {sl : List Nat} {cl : Cl} {Q : K4} {d : Nat} {ty : TypeId} {pos : String} {af : Array Edge} {g : Option (Nat × Bool)} (z : List AV) (k : ∀ id H', H.length = id → H ++ [some ⟨e, z⟩] = H' → O P K nt .plain ops r ((d, .ptr id 0) :: env) H' (drp sl d) cl Q) (hw : wantE ops env g = some true := by rfl) (hz : zeroT P e = some z := by rfl) (he : Nat.beq e LOOP = false := by rfl) (hd : Nat.blt d nt = true := by rfl) : O P K nt .plain ops (⟨some d, .alloc e, ty, pos, af, g⟩ :: r) env H sl cl Q := O_alloc z hw hz he hd rfl k
end Go.Proofs.YtecdcnacjlcjoaaDoor.Am
