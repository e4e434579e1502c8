/- Walks over the machine: what a region's operations come to, by rules. First part: what is asked, and small laws. -/
import Derived.Test.YtklecelgejlihaaGreatDoorM4
import GoSem.ClaimChange
import Derived.ChangeReads
import Derived.RowKit
/- Walks over the machine: what a region's operations come to, by rules. First part: what is asked, and small laws. -/
namespace Go.Proofs.YtklecelgejlihaaGreatDoor.Am
set_option linter.unusedVariables false
set_option linter.unusedSimpArgs false

abbrev Env := List (Nat × AV)
abbrev Hp := List (Option Blk)
abbrev Cl := List (Nat × Nat)
abbrev K4 := Env → Hp → List Nat → Cl → Prop

/-- Whatever the fuel, from some on. -/
def Ev (p : Nat → Prop) : Prop := ∃ N, ∀ n, N ≤ n → p n
theorem Ev.of {p : Nat → Prop} (h : ∀ n, p n) : Ev p := ⟨0, fun n _ => h n⟩
theorem Ev.mono {p q : Nat → Prop} (h : Ev p) (k : ∀ n, p n → q n) : Ev q := h.imp fun _ h n hn => k n (h n hn)
theorem Ev.both {p q : Nat → Prop} (h : Ev p) (k : Ev q) : Ev fun n => p n ∧ q n := by
  obtain ⟨N, h⟩ := h
  obtain ⟨M, k⟩ := k
  exact ⟨max N M, fun n hn => ⟨h n (Nat.le_trans (Nat.le_max_left _ _) hn), k n (Nat.le_trans (Nat.le_max_right _ _) hn)⟩⟩
theorem Ev.succ {p q : Nat → Prop} (h : Ev p) (k : ∀ n, p n → q (n + 1)) : Ev q := by
  obtain ⟨N, h⟩ := h
  refine ⟨N + 1, fun n hn => ?_⟩
  cases n with
  | zero => omega
  | succ n => exact k n (h n (by omega))

def drp (slots : List Nat) (s : Nat) : List Nat := slots.filter fun q => !(Nat.beq s q)
def has (slots : List Nat) (s : Nat) : Bool := slots.any (Nat.beq s)
theorem mem_drp {l : List Nat} {s q : Nat} : q ∈ drp l s ↔ q ∈ l ∧ s ≠ q := by
  unfold drp
  rw [List.mem_filter]
  constructor
  · rintro ⟨h, e⟩; exact ⟨h, fun e' => by subst e'; rw [Nat.beq_refl] at e; cases e⟩
  · rintro ⟨h, e⟩
    refine ⟨h, ?_⟩
    cases hb : Nat.beq s q with
    | false => rfl
    | true => exact absurd (Nat.eq_of_beq_eq_true hb) e

/-- These ends, at least, are one's own. -/
structure Owned (sl : List Nat) (cl : Cl) (own : List Loc) : Prop where
  slot : ∀ s, s ∈ sl → Loc.slot s ∈ own
  cell : ∀ i o, (i, o) ∈ cl → Loc.cell i o ∈ own
/-- A slot, where it is known. -/
def lookE : Env → Nat → Option AV
  | [], _ => none
  | (s, x) :: r, t => cond (Nat.beq s t) (some x) (lookE r t)
def opE (env : Env) : Operand → Option AV
  | .tmp t => lookE env t
  | .const v => constAV v
  | .global _ => none
  | .func f => some (.fn f [])
def opsE (env : Env) : List Operand → Option (List AV)
  | [] => some []
  | x :: r => match opE env x, opsE env r with
    | some v, some vs => some (v :: vs)
    | _, _ => none
/-- The state is so, as far as is told. -/
structure Sm (env : Env) (H : Hp) (sl : List Nat) (cl : Cl) (st : St) : Prop where
  env : ∀ s v, lookE env s = some v → look st.env s = v
  H : st.H = H
  own : Owned sl cl st.own

section
variable {env : Env} {env' : List (Nat × AV)}
def EnvLe (env : Env) (env' : List (Nat × AV)) : Prop := ∀ s v, lookE env s = some v → look env' s = v
theorem EnvLe.opd (h : EnvLe env env') {x : Operand} {v : AV} (hx : opE env x = some v) : evalO env' x = some v := by
  cases x with
  | tmp t => show some (look env' t) = some v; rw [h t v hx]
  | const c => exact hx
  | global g => cases hx
  | func f => exact hx
theorem EnvLe.ops (h : EnvLe env env') : ∀ {l : List Operand} {vs : List AV}, opsE env l = some vs → evalL env' l = some vs
  | [], vs, hx => hx
  | x :: r, vs, hx => by
    unfold opsE at hx
    cases h1 : opE env x with
    | none => rw [h1] at hx; cases hx
    | some v =>
      cases h2 : opsE env r with
      | none => rw [h1, h2] at hx; cases hx
      | some ws =>
        rw [h1, h2] at hx
        simp only at hx
        unfold evalL
        rw [h.opd h1, h.ops h2]
        exact hx
theorem EnvLe.cons (h : EnvLe env env') (d : Nat) (v : AV) : EnvLe ((d, v) :: env) ((d, v) :: env') := by
  intro s x hx
  unfold lookE at hx
  unfold look
  cases hb : Nat.beq d s with
  | true => rw [hb] at hx; simp only [cond_true] at hx ⊢; injection hx
  | false => rw [hb] at hx; simp only [cond_false] at hx ⊢; exact h s x hx
end

theorem Owned.drop {sl : List Nat} {cl : Cl} {own : List Loc} (h : Owned sl cl own) (s : Nat) : Owned (drp sl s) cl (drop own (.slot s)) :=
  ⟨fun q hq => by rw [mem_drp] at hq; exact mem_drop.2 ⟨h.slot q hq.1, fun e => by injection e with e; exact hq.2 e.symm⟩, fun i o hp => mem_drop.2 ⟨h.cell i o hp, fun e => by cases e⟩⟩
theorem Owned.sub {sl sl' : List Nat} {cl cl' : Cl} {own : List Loc} (h : Owned sl cl own) (h1 : ∀ s, s ∈ sl' → s ∈ sl) (h2 : ∀ p, p ∈ cl' → p ∈ cl) : Owned sl' cl' own :=
  ⟨fun s hs => h.slot s (h1 s hs), fun i o hp => h.cell i o (h2 _ hp)⟩
/-- What a slot has its end from, when a value is put into it. -/
def putSl (sl : List Nat) (g : Bool) (d : Nat) : List Nat := cond g (d :: drp sl d) (drp sl d)
theorem Owned.put {sl : List Nat} {cl : Cl} {own : List Loc} (h : Owned sl cl own) {g g' : Bool} (hg : g = true → g' = true) (d : Nat) : Owned (putSl sl g d) cl (cond g' (give own (.slot d)) (Go.Proofs.YtklecelgejlihaaGreatDoor.Am.drop own (.slot d))) := by
  have hd := h.drop d
  have hsub : ∀ l, l ∈ Go.Proofs.YtklecelgejlihaaGreatDoor.Am.drop own (.slot d) → l ∈ cond g' (give own (.slot d)) (Go.Proofs.YtklecelgejlihaaGreatDoor.Am.drop own (.slot d)) := by
    intro l hl
    cases g' with
    | false => exact hl
    | true => exact List.mem_cons_of_mem _ hl
  refine ⟨fun s hs => ?_, fun i o hp => hsub _ (hd.cell i o hp)⟩
  cases g with
  | false => exact hsub _ (hd.slot s hs)
  | true =>
    rcases List.mem_cons.1 hs with rfl | hs
    · rw [hg rfl]; exact List.mem_cons_self
    · exact hsub _ (hd.slot s hs)

/-! ### operations that neither read nor write cells, by what is known of the slots -/
def partsE (env : Env) : List (Nat × Operand) → Option (List (Nat × AV))
  | [] => some []
  | (i, x) :: r => match opE env x, partsE env r with
    | some v, some vs => some ((i, v) :: vs)
    | _, _ => none
section
variable {P : Program} {env : Env} {env' : List (Nat × AV)}
theorem EnvLe.parts (h : EnvLe env env') : ∀ {l : List (Nat × Operand)} {vs : List (Nat × AV)}, partsE env l = some vs → evalParts env' l = some vs
  | [], vs, hx => hx
  | (i, x) :: r, vs, hx => by
    unfold partsE at hx
    cases h1 : opE env x with
    | none => rw [h1] at hx; cases hx
    | some v =>
      cases h2 : partsE env r with
      | none => rw [h1, h2] at hx; cases hx
      | some ws =>
        rw [h1, h2] at hx
        simp only at hx
        unfold evalParts
        rw [h.opd h1, h.parts h2]
        exact hx
end
end Go.Proofs.YtklecelgejlihaaGreatDoor.Am

/- Walks over the machine, second part: what stands in a region, by rules. -/
namespace Go.Proofs.YtklecelgejlihaaGreatDoor.Am
set_option linter.unusedVariables false
set_option linter.unusedSimpArgs false

/-- How a region is run: in its order, or in any. -/
inductive Md where
  | plain
  | draw (base : Nat) (lt : Option WS) (mx : Bool)
def Md.pre : Md → Option (Nat × Option WS)
  | .plain => none
  | .draw b lt _ => some (b, lt)
def Md.call (md : Md) (P : Program) (K : Know) (n : Nat) (ops : List Oper) (dst : Option Nat) : CallA :=
  match md with
  | .plain => cN P K n
  | .draw _ _ mx => cond mx (cond (mixD ops dst) (dN P K n) (chk (cN P K n))) (cN P K n)
def Md.above (md : Md) (K : Know) (H : Hp) : Bool :=
  match md with
  | .plain => true
  | .draw _ _ mx => cond mx (Nat.ble K.lo H.length) true
def stepM (P : Program) (K : Know) (nt : Nat) (md : Md) (ops : List Oper) (n : Nat) (o : Oper) (st : St) : Option St :=
  match md with
  | .plain => stepZ (cN P K n) (yieldA K.lo (execK P n K)) P nt ops o st
  | .draw _ _ _ => stepW (md.call P K n ops o.dst) P nt md.pre ops o st
def runM (P : Program) (K : Know) (nt : Nat) (md : Md) (ops : List Oper) (n : Nat) : List Oper → St → Option St
  | [], st => some st
  | o :: r, st => match stepM P K nt md ops n o st with
    | some st' => runM P K nt md ops n r st'
    | none => none
section
variable {P : Program} {K : Know} {nt : Nat} {ops : List Oper}
end

/-- A region's operations end in Q. -/
structure O (P : Program) (K : Know) (nt : Nat) (md : Md) (ops l : List Oper) (env : Env) (H : Hp) (sl : List Nat) (cl : Cl) (Q : K4) : Prop where
  to : ∀ st, Sm env H sl cl st → ∃ env' H' sl' cl' st', Q env' H' sl' cl' ∧ Sm env' H' sl' cl' st' ∧ Ev fun n => runM P K nt md ops n l st = some st'

section
variable {P : Program} {K : Know} {nt : Nat} {md : Md} {ops r : List Oper} {env : Env} {H : Hp} {sl : List Nat} {cl : Cl} {Q : K4}

end
end Go.Proofs.YtklecelgejlihaaGreatDoor.Am

/- Walks over the machine, third part: rules for operations. -/
namespace Go.Proofs.YtklecelgejlihaaGreatDoor.Am
set_option linter.unusedVariables false
set_option linter.unusedSimpArgs false

/-- A call ends in R, whatever the fuel, from some on. -/
def CallsR (P : Program) (K : Know) (f : FuncId) (args : List AV) (H : Hp) (cl : Cl) (R : AV → Hp → Cl → Prop) : Prop :=
  ∀ own, Owned [] cl own → ∃ x H' cl' own', R x H' cl' ∧ Owned [] cl' own' ∧ Ev fun n => callK P n K f args H own = some (x, H', own')
def stB (P : Program) (t : TypeId) (off : Nat) (b : Blk) (v : AV) : Bool :=
  match sizeT P t with
  | some n => !(Nat.beq b.e LOOP) && Nat.beq v.cells.length n && Nat.blt 0 n && Nat.ble (off + n) b.cs.length
  | none => false
section
variable {P : Program} {K : Know} {nt : Nat} {md : Md} {ops r : List Oper} {env : Env} {H : Hp} {sl : List Nat} {cl : Cl} {Q : K4}

theorem mem_ins {x y : Loc} : ∀ {l : List Loc}, y = x ∨ y ∈ l → y ∈ insL x l
  | [], h => by
    rcases h with rfl | h
    · exact List.mem_cons_self
    · cases h
  | z :: r, h => by
    unfold insL
    cases hlt : Loc.lt x z with
    | true =>
      simp only [cond_true]
      rcases h with rfl | h
      · exact List.mem_cons_self
      · exact List.mem_cons_of_mem _ h
    | false =>
      simp only [cond_false]
      cases hb : Loc.beq x z with
      | true =>
        simp only [cond_true]
        rcases h with rfl | h
        · have : y = z := by
            cases y <;> cases z <;> simp only [Loc.beq, Bool.and_eq_true] at hb
            · rw [Nat.eq_of_beq_eq_true hb]
            · cases hb
            · cases hb
            · rw [Nat.eq_of_beq_eq_true hb.1, Nat.eq_of_beq_eq_true hb.2]
          rw [this]; exact List.mem_cons_self
        · exact h
      | false =>
        simp only [cond_false]
        rcases h with rfl | h
        · exact List.mem_cons_of_mem _ (mem_ins (.inl rfl))
        · rcases List.mem_cons.1 h with rfl | h
          · exact List.mem_cons_self
          · exact List.mem_cons_of_mem _ (mem_ins (.inr h))
theorem mem_canon' : ∀ {l : List Loc} {x : Loc}, x ∈ l → x ∈ canon l
  | [], x, h => by cases h
  | y :: r, x, h => by
    show x ∈ insL y (canon r)
    rcases List.mem_cons.1 h with rfl | h
    · exact mem_ins (.inl rfl)
    · exact mem_ins (.inr (mem_canon' h))
theorem Owned.cells {own : List Loc} (h : Owned sl cl own) : Owned [] cl (canon (own.filter Loc.isCell)) :=
  ⟨fun s hs => (by cases hs), fun i o hp => mem_canon' (List.mem_filter.2 ⟨h.cell i o hp, rfl⟩)⟩
theorem Owned.back {cl' : Cl} {own own' : List Loc} (h : Owned sl cl own) (h' : Owned [] cl' own') : Owned sl cl' (own.filter (fun l => !l.isCell) ++ own'.filter Loc.isCell) :=
  ⟨fun s hs => List.mem_append_left _ (List.mem_filter.2 ⟨h.slot s hs, rfl⟩), fun i o hp => List.mem_append_right _ (List.mem_filter.2 ⟨h'.cell i o hp, rfl⟩)⟩

end
end Go.Proofs.YtklecelgejlihaaGreatDoor.Am

/- Walks over the machine, fourth part: rules for statements, loops, functions. -/
namespace Go.Proofs.YtklecelgejlihaaGreatDoor.Am
set_option linter.unusedVariables false
set_option linter.unusedSimpArgs false

abbrev K6 := Ex → K4
/-- A statement ends in Q. -/
structure C (P : Program) (K : Know) (vars : Nat → List Nat) (nt : Nat) (c : Code) (env : Env) (H : Hp) (sl : List Nat) (cl : Cl) (Q : K6) : Prop where
  to : ∀ st, Sm env H sl cl st → ∃ e env' H' sl' cl' st', Q e env' H' sl' cl' ∧ Sm env' H' sl' cl' st' ∧ Ev fun n => execK P n K vars nt c st = some (e, st')

section
variable {P : Program} {K : Know} {vars : Nat → List Nat} {nt : Nat} {env : Env} {H : Hp} {sl : List Nat} {cl : Cl} {Q : K6}

end

section
variable {P : Program} {K : Know} {env : Env} {H : Hp} {sl : List Nat} {cl : Cl}
theorem CallsR.mono {f : FuncId} {args : List AV} {R R' : AV → Hp → Cl → Prop} (h : CallsR P K f args H cl R) (k : ∀ x H' cl', R x H' cl' → R' x H' cl') : CallsR P K f args H cl R' := by
  intro own hown
  obtain ⟨x, H', cl', own', h0, h1⟩ := h own hown
  exact ⟨x, H', cl', own', k _ _ _ h0, h1⟩
end
end Go.Proofs.YtklecelgejlihaaGreatDoor.Am

/- Walks over the machine, fifth part: loops over functions. -/
namespace Go.Proofs.YtklecelgejlihaaGreatDoor.Am
set_option linter.unusedVariables false
set_option linter.unusedSimpArgs false

section
variable {P : Program} {K : Know} {nt : Nat} {vars : Nat → List Nat} {ops r : List Oper} {env : Env} {H : Hp} {sl : List Nat} {cl : Cl}

end
end Go.Proofs.YtklecelgejlihaaGreatDoor.Am

/- Walks over the machine, sixth part: small laws. -/
namespace Go.Proofs.YtklecelgejlihaaGreatDoor.Am
set_option linter.unusedVariables false

/-- A place in a function's text: false: the first part, true: the second. -/
def Code.sub : Code → List Bool → Code
  | c, [] => c
  | .seq a _, false :: r => Code.sub a r
  | .seq _ b, true :: r => Code.sub b r
  | .cond _ a _, false :: r => Code.sub a r
  | .cond _ _ b, true :: r => Code.sub b r
  | .block _ c, _ :: r => Code.sub c r
  | .loop c, _ :: r => Code.sub c r
  | c, _ => c
def at_ (f : Func) (p : List Bool) : Code := match f.body with
  | some c => Code.sub c p
  | none => .skip
def More (H H' : List (Option Blk)) : Prop := ∃ E, H' = H ++ E
theorem More.refl (H : List (Option Blk)) : More H H := ⟨[], (List.append_nil H).symm⟩
theorem More.trans {A B C : List (Option Blk)} (h : More A B) (k : More B C) : More A C := by
  obtain ⟨E, rfl⟩ := h; obtain ⟨F, rfl⟩ := k; exact ⟨E ++ F, by rw [List.append_assoc]⟩
theorem More.app (H E : List (Option Blk)) : More H (H ++ E) := ⟨E, rfl⟩
end Go.Proofs.YtklecelgejlihaaGreatDoor.Am

/- Readings of arguments, as the abstract machine's values. -/
namespace Go.Proofs.YtklecelgejlihaaGreatDoor.Am
set_option linter.unusedVariables false
set_option linter.unusedSimpArgs false

/-- The types of what comes in: their cells. -/
inductive Ty where
  | bool
  | int (k : IntKind)
  | str
  | slice (e : TypeId) (agg : Bool) (t : Ty)
  | unit
  | pair (a b : Ty)
def Ty.size : Ty → Nat
  | .bool => 1
  | .int _ => 1
  | .str => 1
  | .slice _ _ _ => 1
  | .unit => 0
  | .pair a b => a.size + b.size
def Ty.single : Ty → Bool
  | .unit => false
  | .pair _ _ => false
  | _ => true
def Ty.den : Ty → Type
  | .bool => Bool
  | .int k => { n : Int // (Lit.int k n).wf = true }
  | .str => { s : List UInt8 // s.length ≤ maxLen }
  | .slice _ _ t => Option { p : List t.den × List t.den // p.1.length + p.2.length ≤ maxLen }
  | .unit => Unit
  | .pair a b => a.den × b.den
def elt (agg : Bool) (cs : List AV) : AV :=
  match agg with
  | true => .agg cs
  | false => cs.headD .undef
def Ty.enc : (t : Ty) → t.den → List AV
  | .bool, b => [.bool b]
  | .int k, n => [.int k n.1]
  | .str, s => [.str s.1]
  | .slice e agg t, none => [.nils]
  | .slice e agg t, some p => [.lst e (p.1.1.map fun d => elt agg (t.enc d)) (p.1.2.map fun d => elt agg (t.enc d))]
  | .unit, _ => []
  | .pair a b, d => a.enc d.1 ++ b.enc d.2

def tyFields (f : TypeId → Option Ty) (P : Program) : List Field → Nat → Option Ty
  | [], _ => some .unit
  | fd :: r, off => match f fd.type with
    | some t => if fd.offset = off ∧ P.cellsOf fd.type = t.size then (tyFields f P r (off + t.size)).map (.pair t) else none
    | none => none
def tyOf (P : Program) : Nat → TypeId → Option Ty
  | 0, _ => none
  | n + 1, t => match P.underlying t with
    | some .bool => some .bool
    | some (.int k) => some (.int k)
    | some .string => some .str
    | some (.slice e) => match tyOf P n e, isAggT P e, sizeT P e with
      | some te, some agg, some sz => if sz = te.size ∧ 0 < sz ∧ (agg || te.single) = true then some (.slice e agg te) else none
      | _, _, _ => none
    | some (.struct fs) => match tyFields (tyOf P n) P fs.toList 0 with
      | some T => if P.cellsOf t = T.size then some T else none
      | none => none
    | _ => none

section
variable {P : Program} {w : World} {M : Mem}

/-- Cells that stand for values. -/
structure CR (P : Program) (M : Mem) (xs : List AV) (cs : List Value) : Prop where
  len : xs.length = cs.length
  rep : ∀ i, i < xs.length → Rep P M (xs.getD i .undef) (cs.getD i undef)
  one : ∀ i, i < xs.length → (cs.getD i undef).oneCell' = true
theorem CR.nil : CR P M [] [] := ⟨rfl, fun i h => by simp at h, fun i h => by simp at h⟩
theorem CR.single {x : AV} {v : Value} (r : Rep P M x v) (h : v.oneCell' = true) : CR P M [x] [v] :=
  ⟨rfl, fun i hi => by obtain rfl : i = 0 := by simpa using hi
                       exact r, fun i hi => by obtain rfl : i = 0 := by simpa using hi
                                               exact h⟩
theorem CR.append {xs ys : List AV} {cs ds : List Value} (h : CR P M xs cs) (k : CR P M ys ds) : CR P M (xs ++ ys) (cs ++ ds) := by
  refine ⟨by rw [List.length_append, List.length_append, h.len, k.len], ?_, ?_⟩
  · intro i hi
    rw [List.length_append] at hi
    simp only [List.getD_eq_getElem?_getD]
    by_cases hl : i < xs.length
    · rw [List.getElem?_append_left hl, List.getElem?_append_left (by rw [← h.len]; exact hl)]
      have := h.rep i hl
      simpa only [List.getD_eq_getElem?_getD] using this
    · rw [List.getElem?_append_right (by omega), List.getElem?_append_right (by rw [← h.len]; omega), ← h.len]
      have := k.rep (i - xs.length) (by omega)
      simpa only [List.getD_eq_getElem?_getD] using this
  · intro i hi
    rw [List.length_append] at hi
    simp only [List.getD_eq_getElem?_getD]
    by_cases hl : i < xs.length
    · rw [List.getElem?_append_left (by rw [← h.len]; exact hl)]
      have := h.one i hl
      simpa only [List.getD_eq_getElem?_getD] using this
    · rw [List.getElem?_append_right (by rw [← h.len]; omega), ← h.len]
      have := k.one (i - xs.length) (by omega)
      simpa only [List.getD_eq_getElem?_getD] using this

theorem enc_len : ∀ (t : Ty) (d : t.den), (t.enc d).length = t.size
  | .bool, _ => rfl
  | .int _, _ => rfl
  | .str, _ => rfl
  | .slice _ _ _, none => rfl
  | .slice _ _ _, some _ => rfl
  | .unit, _ => rfl
  | .pair a b, d => by simp only [Ty.enc, Ty.size, List.length_append, enc_len a d.1, enc_len b d.2]
theorem enc_one : ∀ (t : Ty) (d : t.den), t.single = true → ∃ x, t.enc d = [x] ∧ x.cells = [x]
  | .bool, _, _ => ⟨_, rfl, rfl⟩
  | .int _, _, _ => ⟨_, rfl, rfl⟩
  | .str, _, _ => ⟨_, rfl, rfl⟩
  | .slice _ _ _, none, _ => ⟨_, rfl, rfl⟩
  | .slice _ _ _, some _, _ => ⟨_, rfl, rfl⟩
  | .unit, _, h => by cases h
  | .pair a b, d, h => by cases h
theorem elt_cells {agg : Bool} {t : Ty} (h : (agg || t.single) = true) (d : t.den) : (elt agg (t.enc d)).cells = t.enc d := by
  cases agg with
  | true => rfl
  | false =>
    obtain ⟨x, h1, h2⟩ := enc_one t d (by simpa using h)
    rw [h1]; exact h2

theorem cells_at {a : Addr} {n : Nat} {cs : List Value} (h : w.cells? 0 a n = some cs) : cs.length = n ∧ ∀ j, j < n → w.cell? (a.add j) = some (cs.getD j undef) := by
  unfold World.cells? at h
  rw [if_pos (Nat.zero_le _)] at h
  have key : ∀ (l : List Nat) (ys : List Value), l.mapM (fun i => w.cell? (a.add i)) = some ys → ys.length = l.length ∧ ∀ i k, l[i]? = some k → w.cell? (a.add k) = some (ys.getD i undef) := by
    intro l
    induction l with
    | nil => intro ys h; simp at h; subst h; exact ⟨rfl, fun i k h => by simp at h⟩
    | cons x r ih =>
      intro ys h
      rw [List.mapM_cons] at h
      cases hx : w.cell? (a.add x) with
      | none => simp [hx] at h
      | some v =>
        cases hr : r.mapM (fun i => w.cell? (a.add i)) with
        | none => simp [hx, hr] at h
        | some vs =>
          simp [hx, hr] at h; subst h
          obtain ⟨h1, h2⟩ := ih vs hr
          refine ⟨by simp [h1], fun i k hi => ?_⟩
          cases i with
          | zero => simp at hi; subst hi; simpa using hx
          | succ i => simp at hi; simpa using h2 i k hi
  obtain ⟨h1, h2⟩ := key _ _ h
  rw [List.length_range] at h1
  exact ⟨h1, fun j hj => h2 j j (by rw [List.getElem?_range hj])⟩
theorem cell_plain {a : Addr} {v : Value} (h : w.cell? a = some v) : a = ⟨a.block, a.off, none⟩ := by
  unfold World.cell? at h
  split at h
  · split at h
    · cases h
    · rename_i hs
      obtain ⟨b, o, s⟩ := a
      cases s with
      | none => rfl
      | some x => simp at hs
  · cases h
theorem add_plain (b o n : Nat) : (Addr.add ⟨b, o, none⟩ n) = ⟨b, o + n, none⟩ := by
  unfold Addr.add
  split
  · rename_i h; rw [h]; rfl
  · rfl

end
end Go.Proofs.YtklecelgejlihaaGreatDoor.Am

/- Readings of arguments, second part: each reading is a value of its type. -/
namespace Go.Proofs.YtklecelgejlihaaGreatDoor.Am
set_option linter.unusedVariables false
set_option linter.unusedSimpArgs false

section
variable {P : Program} {w : World} {M : Mem} {H : Type} {enc : TypeId × Value → H} {held : Bool}

theorem mapM_each {α β : Type} {g : α → Option β} : ∀ {l : List α} {ys : List β}, l.mapM g = some ys → ∀ x ∈ l, ∃ y, g x = some y
  | [], ys, h, x, hx => by cases hx
  | a :: l, ys, h, x, hx => by
    rw [List.mapM_cons] at h
    cases ha : g a with
    | none => simp [ha] at h
    | some y =>
      cases hl : l.mapM g with
      | none => simp [ha, hl] at h
      | some zs =>
        rcases List.mem_cons.1 hx with rfl | hx
        · exact ⟨y, ha⟩
        · exact mapM_each hl x hx
theorem list_of {α : Type} {Q : Nat → α → Prop} : ∀ n, (∀ i, i < n → ∃ v, Q i v) → ∃ l : List α, l.length = n ∧ ∀ i v, l[i]? = some v → Q i v
  | 0, _ => ⟨[], rfl, fun i v h => by simp at h⟩
  | n + 1, h => by
    obtain ⟨l, h1, h2⟩ := list_of n fun i hi => h i (by omega)
    obtain ⟨v, hv⟩ := h n (by omega)
    refine ⟨l ++ [v], by simp [h1], fun i u hu => ?_⟩
    by_cases hi : i < l.length
    · rw [List.getElem?_append_left hi] at hu; exact h2 i u hu
    · rw [List.getElem?_append_right (by omega)] at hu
      have hi0 : i - l.length = 0 := by
        rcases Nat.eq_zero_or_pos (i - l.length) with h0 | h0
        · exact h0
        · rw [List.getElem?_eq_none (by simp; omega)] at hu; cases hu
      rw [hi0] at hu
      simp at hu; subst hu
      have : i = n := by omega
      subst this; exact hv

theorem slice_ty {e : TypeId} {agg : Bool} {te : Ty} {sz : Nat} (hM : ∀ b o v, w.cell? ⟨b, o, none⟩ = some v → M.pm b o = some v) (hsz : sizeT P e = some sz) (hte : sz = te.size) (hz : 0 < sz) (hs : (agg || te.single) = true) {a : Addr} {len cap : Nat} (hl : len ≤ cap) (hm : cap ≤ maxLen)
    (hel : ∀ i, i < cap → ∃ c v, w.cells? 0 (a.add (i * sz)) sz = some c ∧ CR P M (te.enc v) c) : ∃ v : (Ty.slice e agg te).den, CR P M ((Ty.slice e agg te).enc v) [.slice (some a) len cap] := by
  obtain ⟨all, h1, h2⟩ := list_of (Q := fun i v => ∃ c, w.cells? 0 (a.add (i * sz)) sz = some c ∧ CR P M (te.enc v) c) cap fun i hi => by obtain ⟨c, v, h⟩ := hel i hi; exact ⟨v, c, h⟩
  refine ⟨some ⟨(all.take len, all.drop len), by simp only [List.length_take, List.length_drop]; omega⟩, CR.single ?_ rfl⟩
  have hcat : (all.take len).map (fun d => elt agg (te.enc d)) ++ (all.drop len).map (fun d => elt agg (te.enc d)) = all.map fun d => elt agg (te.enc d) := by
    rw [← List.map_append, List.take_append_drop]
  have hall : ∀ x ∈ all.map (fun d => elt agg (te.enc d)), x.cells.length = sz := by
    intro x hx
    obtain ⟨d, _, rfl⟩ := List.mem_map.1 hx
    rw [elt_cells hs, enc_len, hte]
  have hplain : all ≠ [] → a = ⟨a.block, a.off, none⟩ := by
    intro hne
    obtain ⟨d, r, rfl⟩ : ∃ d r, all = d :: r := by
      cases all with
      | nil => exact absurd rfl hne
      | cons d r => exact ⟨d, r, rfl⟩
    obtain ⟨c, hc, _⟩ := h2 0 d rfl
    have := (cells_at hc).2 0 hz
    rw [Nat.zero_mul] at this
    have e0 : (a.add 0).add 0 = a := by simp [Addr.add]
    rw [e0] at this
    exact cell_plain this
  have hat : ∀ j, j < (flat (all.map fun d => elt agg (te.enc d))).length → ∃ v, w.cell? ⟨a.block, a.off + j, none⟩ = some v ∧ Rep P M ((flat (all.map fun d => elt agg (te.enc d))).getD j .undef) v ∧ v.oneCell' = true := by
    intro j hj
    rw [flat_len _ hall, List.length_map, h1] at hj
    have hdm : j / sz * sz + j % sz = j := by rw [Nat.mul_comm]; exact Nat.div_add_mod j sz
    have hr : j % sz < sz := Nat.mod_lt _ hz
    have hi : j / sz < cap := Nat.div_lt_of_lt_mul (by rw [Nat.mul_comm]; exact hj)
    obtain ⟨d, hd⟩ : ∃ d, all[j / sz]? = some d := ⟨all[j / sz], List.getElem?_eq_getElem (by omega)⟩
    obtain ⟨c, hc, hcr⟩ := h2 _ d hd
    obtain ⟨hc1, hc2⟩ := cells_at hc
    have hcell := hc2 (j % sz) hr
    have hne : all ≠ [] := by rintro rfl; simp at hd
    rw [hplain hne, add_plain, add_plain, Nat.add_assoc, hdm] at hcell
    refine ⟨_, hcell, ?_, hcr.one _ (by rw [enc_len]; omega)⟩
    have := flat_at _ hall (j / sz) (j % sz) (elt agg (te.enc d)) (by rw [List.getElem?_map, hd]; rfl) hr
    rw [hdm] at this
    rw [this, elt_cells hs]
    exact hcr.rep _ (by rw [enc_len]; omega)
  have hlen : ((all.take len).map fun d => elt agg (te.enc d)).length = len := by simp; omega
  have := Rep.lst (P := P) (M := M) e ((all.take len).map fun d => elt agg (te.enc d)) ((all.drop len).map fun d => elt agg (te.enc d)) (some a) cap sz a.block a.off (fun j => (w.cell? ⟨a.block, a.off + j, none⟩).getD undef) hsz hz (by rw [hcat]; exact hall)
    (by simp only [List.length_map, List.length_take, List.length_drop]; omega) (by
      intro hne
      rw [hcat] at hne
      have : all ≠ [] := by rintro rfl; simp at hne
      rw [← hplain this])
    (by intro j hj; rw [hcat] at hj; obtain ⟨v, h3, _⟩ := hat j hj; rw [h3]; exact hM _ _ _ h3)
    (by intro j hj; rw [hcat] at hj ⊢; obtain ⟨v, h3, h4, _⟩ := hat j hj; rw [h3]; exact h4)
    (by intro j hj; rw [hcat] at hj; obtain ⟨v, h3, _, h5⟩ := hat j hj; rw [h3]; exact h5)
  rw [hlen] at this
  exact this

theorem fields_ty {f : TypeId → Option Ty} {g : TypeId → List Value → Option (DataW H × List MemPlace)} (hg : ∀ t T cs y, f t = some T → g t cs = some y → ∃ v : T.den, CR P M (T.enc v) cs) {cs : List Value} : ∀ (fs : List Field) (off : Nat) (T : Ty) (ys : List (DataW H × List MemPlace)), tyFields f P fs off = some T →
    (fs.mapM fun fd => g fd.type ((cs.drop fd.offset).take (P.cellsOf fd.type))) = some ys → ∃ v : T.den, CR P M (T.enc v) ((cs.drop off).take T.size)
  | [], off, T, ys, h, _ => by
    simp only [tyFields, Option.some.injEq] at h; subst h
    exact ⟨(), by simp only [Ty.size, List.take_zero]; exact CR.nil⟩
  | fd :: r, off, T, ys, h, hy => by
    simp only [tyFields] at h
    cases hf : f fd.type with
    | none => rw [hf] at h; cases h
    | some t =>
      rw [hf] at h
      simp only at h
      split at h
      · rename_i hc
        cases hr : tyFields f P r (off + t.size) with
        | none => rw [hr] at h; cases h
        | some T' =>
          rw [hr] at h
          simp only [Option.map_some, Option.some.injEq] at h; subst h
          rw [List.mapM_cons] at hy
          cases hgd : g fd.type ((cs.drop fd.offset).take (P.cellsOf fd.type)) with
          | none => simp [hgd] at hy
          | some y =>
            cases hrr : r.mapM (fun fd => g fd.type ((cs.drop fd.offset).take (P.cellsOf fd.type))) with
            | none => simp [hgd, hrr] at hy
            | some zs =>
              obtain ⟨v, hv⟩ := hg _ _ _ _ hf hgd
              obtain ⟨v', hv'⟩ := fields_ty hg r (off + t.size) T' zs hr hrr
              refine ⟨(v, v'), ?_⟩
              rw [hc.1, hc.2] at hv
              have e : ((cs.drop off).take (t.size + T'.size)) = (cs.drop off).take t.size ++ (cs.drop (off + t.size)).take T'.size := by
                rw [List.take_add, List.drop_drop]
              show CR P M (t.enc v ++ T'.enc v') ((cs.drop off).take (t.size + T'.size))
              rw [e]
              exact hv.append hv'
      · cases h

theorem trod_ty (hM : ∀ b o v, w.cell? ⟨b, o, none⟩ = some v → M.pm b o = some v) : ∀ (n : Nat) (t : TypeId) (T : Ty) (fuel : Nat) (cs : List Value) (y : DataW H × List MemPlace), tyOf P n t = some T → DataW.trod enc P w 0 (fun _ => true) held fuel t cs = some y → ∃ v : T.den, CR P M (T.enc v) cs := by
  intro n
  induction n with
  | zero => intro t T fuel cs y h; cases h
  | succ n ih =>
    intro t T fuel cs y h hr
    cases fuel with
    | zero => simp [DataW.trod] at hr
    | succ fuel =>
      rw [DataW.trod_step] at hr
      unfold DataW.trodStep at hr
      simp only [tyOf] at h
      split at hr
      · rename_i b hu
        rw [hu] at h
        injection h with h; subst h
        exact ⟨b, CR.single (.bool b) rfl⟩
      · rename_i k k' m hu
        rw [hu] at h
        injection h with h; subst h
        split at hr
        · rename_i hk
          obtain ⟨rfl, hw⟩ := hk
          exact ⟨⟨m, hw⟩, CR.single (.int _ m) rfl⟩
        · cases hr
      · rename_i hu; rw [hu] at h; cases h
      · rename_i s hu
        rw [hu] at h
        injection h with h; subst h
        split at hr
        · rename_i hs
          refine ⟨⟨s.data.toList, by rw [Array.length_toList]; exact hs⟩, CR.single ?_ rfl⟩
          exact .str s.data.toList
        · cases hr
      · rename_i hu; rw [hu] at h; cases h
      · rename_i hu; rw [hu] at h; cases h
      · rename_i e hu
        rw [hu] at h
        simp only at h
        split at h
        · split at h
          · injection h with h; subst h
            exact ⟨none, CR.single .nils rfl⟩
          · cases h
        · cases h
      · rename_i e a len cap hu
        rw [hu] at h
        simp only at h
        split at h
        · rename_i te agg sz h1 h2 h3
          split at h
          · rename_i hc
            obtain ⟨c1, c2, c3⟩ := hc
            injection h with h; subst h
            have hcell : P.cellsOf e = sz := by
              unfold Program.cellsOf
              have : (P.info? e).map (·.size) = some sz := h3
              rw [this]; rfl
            rw [hcell] at hr
            simp only at hr
            split at hr
            · rename_i hb
              obtain ⟨_, hl, hm⟩ := hb
              refine slice_ty hM h3 c1 c2 c3 hl hm ?_
              intro i hi
              cases hA : (List.range len).mapM (fun i => (w.cells? 0 (a.add (i * sz)) sz).bind (DataW.trod enc P w 0 (fun _ => true) held fuel e)) with
              | none => rw [hA] at hr; cases hr
              | some elems =>
                rw [hA] at hr
                simp only [Option.bind_some, if_true] at hr
                cases hB : (List.range (cap - len)).mapM (fun j => (w.cells? 0 (a.add ((len + j) * sz)) sz).bind (DataW.trod enc P w 0 (fun _ => true) held fuel e)) with
                | none => rw [hB] at hr; cases hr
                | some rest =>
                  have hex : ∃ y, (w.cells? 0 (a.add (i * sz)) sz).bind (DataW.trod enc P w 0 (fun _ => true) held fuel e) = some y := by
                    by_cases hlt : i < len
                    · exact mapM_each hA i (List.mem_range.2 hlt)
                    · have := mapM_each hB (i - len) (List.mem_range.2 (by omega))
                      have e1 : len + (i - len) = i := by omega
                      rw [e1] at this
                      exact this
                  obtain ⟨y, hy⟩ := hex
                  cases hc : w.cells? 0 (a.add (i * sz)) sz with
                  | none => rw [hc] at hy; cases hy
                  | some c =>
                    rw [hc] at hy
                    obtain ⟨v, hv⟩ := ih e te fuel c y h1 hy
                    exact ⟨c, v, rfl, hv⟩
            · cases hr
          · cases h
        · cases h
      · rename_i cs x2 cs2 fs hu
        rw [hu] at h
        simp only at h
        split at h
        · rename_i T' hT
          split at h
          · rename_i hc
            injection h with h; subst h
            split at hr
            · rename_i hlen
              cases hm : fs.toList.mapM (fun f => DataW.trod enc P w 0 (fun _ => true) held fuel f.type ((cs.drop f.offset).take (P.cellsOf f.type))) with
              | none => rw [hm] at hr; cases hr
              | some ys =>
                obtain ⟨v, hv⟩ := fields_ty (f := tyOf P n) (g := fun t cs => DataW.trod enc P w 0 (fun _ => true) held fuel t cs) (fun t T cs y h1 h2 => ih t T fuel cs y h1 h2) fs.toList 0 _ ys hT hm
                refine ⟨v, ?_⟩
                rw [List.drop_zero, List.take_of_length_le (by rw [hlen, hc]; exact Nat.le_refl _)] at hv
                exact hv
            · cases hr
          · cases h
        · cases h
      all_goals first
        | (rename_i hu; rw [hu] at h; cases h)
        | (cases hr)
        | (rename_i hu _; rw [hu] at h; cases h)

end
end Go.Proofs.YtklecelgejlihaaGreatDoor.Am

/- What a law's function answers, from what the abstract machine says of it. -/
namespace Go.Proofs.YtklecelgejlihaaGreatDoor.Am
set_option linter.unusedVariables false
set_option linter.unusedSimpArgs false

section
variable {P : Program} {K : Know} {W : World}

/-- The memory that comes in: nobody writes it. -/
def G0 (W : World) : Gh := ⟨fun b => match W.heap[b]? with
  | some (.cells c _ _) => c.size
  | _ => 0, fun _ => none, fun _ => 0, fun _ => none⟩
/-- The variables are there, and hold what is known of them. -/
structure GlobAt (W : World) : Prop where
  lt : glN ≤ W.heap.size
  is : GlobIs fun b => if b < glN then W.heap[b]? else none
theorem G0_ok {W : World} (hG : GlobAt W) : GOk (G0 W) W := by
  refine ⟨fun id b h => (by cases h), fun b hb => ⟨?_, rfl, rfl⟩, ⟨fun b hb => ⟨Nat.lt_of_lt_of_le hb hG.lt, fun h => ?_⟩, hG.is⟩⟩
  case refine_2 =>
    rcases h with ⟨id, h⟩ | h
    · cases h
    · cases h
  show (match W.heap[b]? with | some (.cells c _ _) => c.size | _ => 0) = 0
  rw [Array.getElem?_eq_none hb]
theorem G0_pm (W : World) : ∀ b o v, W.cell? ⟨b, o, none⟩ = some v → ((G0 W).mem W).pm b o = some v := by
  intro b o v h
  show pmOf W (G0 W) b o = some v
  unfold pmOf
  rw [if_pos ?_, h]
  show o < (match W.heap[b]? with | some (.cells c _ _) => c.size | _ => 0)
  unfold World.cell? at h
  split at h
  · rename_i c t fr hb
    rw [hb]
    simp only at h ⊢
    exact (Array.getElem?_eq_some_iff.1 h).1
  · cases h
theorem G0_heap (W : World) : HeapRel P (G0 W) [] W := ⟨fun id b h => (by cases h), fun id b k h => (by cases h), fun i j b k l h => (by cases h), fun id b k h => (by cases h)⟩
theorem G0_foot (W : World) (b : Nat) : ¬ Foot (G0 W) b := by
  rintro (⟨id, h⟩ | h)
  · cases h
  · cases h

theorem args_list {M : Mem} {xs : List AV} {vs : List Value} (hl : vs.length = xs.length) (h : ∀ i, i < xs.length → Rep P M (xs.getD i .undef) (vs.getD i undef)) : ArgsRep P M xs vs.toArray :=
  ⟨by simpa using hl, fun i hi => by have := h i hi; simpa [Array.getD_eq_getD_getElem?, List.getD_eq_getElem?_getD] using this⟩

end
end Go.Proofs.YtklecelgejlihaaGreatDoor.Am

/- A call without arguments whose answer is a truth value, told once for all memories: it leaves what the machine holds as it was. -/
namespace Go.Proofs.YtklecelgejlihaaGreatDoor.Am
set_option linter.unusedVariables false
set_option linter.unusedSimpArgs false
open Go.RowKit

section
variable {P : Program} {K : Know}

def idleF (b : Bool) : Nat → List AV → List (Option Blk) → List Loc → Option Out := fun lo args H own => match args with
  | [] => some (.bool b, H, own)
  | _ => none

theorem idle_local {f0 : FuncId} {b : Bool} (lo : Nat) : CallLock ⟨fun f' args H own => if f' = f0 then idleF b lo args H own else none, lo⟩ ∧ CallFill ⟨fun f' args H own => if f' = f0 then idleF b lo args H own else none, lo⟩ := by
  constructor
  · intro f args H own x H' own' h _
    simp only at h
    split at h
    case isFalse => cases h
    unfold idleF at h
    split at h
    · injection h with h; injection h with h1 h; injection h with h2 h3; subst h2; exact Lock.refl _ _
    · cases h
  · intro f args H own x H' own' p k h hp
    simp only at h ⊢
    split at h
    case isFalse => cases h
    rename_i he
    rw [if_pos he]
    unfold idleF at h ⊢
    split at h
    · injection h with h; injection h with h1 h; injection h with h2 h3; subst h1 h2 h3; exact ⟨hp, rfl⟩
    · cases h
theorem idle_sound (hP : POk P) (hS : ShortSound P K) (hL : ShortLocal K) {f0 : FuncId} {b : Bool} {n : Nat} {H' : List (Option Blk)} {own' : List Loc} (h : callK P n K f0 [] [] [] = some (.bool b, H', own')) (lo : Nat) : CallSound P ⟨fun f' args H own => if f' = f0 then idleF b lo args H own else none, lo⟩ := by
  intro f1 args H own out hc G w vals g hH ho ha
  simp only at hc
  split at hc
  case isFalse => cases hc
  rename_i he
  subst he
  cases args with
  | cons x r => cases hc
  | nil =>
  injection hc with hc
  subst hc
  have hnf : ∀ q, ¬ Foot (Gh.mk G.lim (fun _ => none) (fun _ => 0) (fun _ => none)) q := by
    rintro q (⟨id, h⟩ | h)
    · cases h
    · cases h
  have g1 : GOk (Gh.mk G.lim (fun _ => none) (fun _ => 0) (fun _ => none)) w := ⟨fun id q h => (by cases h), fun q hq => ⟨(g.new q hq).1, rfl, rfl⟩, ⟨fun b hb => ⟨(g.held.lt b hb).1, hnf b⟩, g.held.is⟩⟩
  have h1 := (machine_sound hP n K hS hL).1 f1 [] [] [] _ h (Gh.mk G.lim (fun _ => none) (fun _ => 0) (fun _ => none)) w vals g1 ⟨fun id q h => (by cases h), fun id q k h => (by cases h), fun i j q k l h => (by cases h), fun id q k h => (by cases h)⟩ ⟨fun id off q k cs h => (by cases h), fun id off h => (by cases h)⟩ ⟨ha.1, fun i hi => by simp at hi⟩
  refine h1.mono ?_
  rintro e w' ⟨v, G', rfl, hd⟩
  have hr := hd.rep
  have hext : Ext G w (Gh.mk G'.lim G.f G.bs G.owner) w' := by
    refine ⟨hd.ext.os, hd.ext.tape, hd.ext.output, hd.ext.size, fun q o u hq => hd.ext.prot q o u hq, fun _ _ h => h, fun _ => Nat.le_refl _, fun q hq hn => ?_⟩
    obtain ⟨a1, a2, _⟩ := hd.ext.foreign q hq (hnf q)
    exact ⟨a1, a2, hn⟩
  have hkeep : ∀ l x u, OwnAt P G w l x u → OwnAt P (Gh.mk G'.lim G.f G.bs G.owner) w' l x u := by
    intro l x u r e xs hx
    obtain ⟨sz, cells, h1, h2, h3, h4⟩ := r e xs hx
    have hlt : ∀ q, u.ownBlock = some q → q < w.heap.size := by
      intro q hq
      rcases h3.2 with ⟨rfl, _⟩ | ⟨g', cap, cur, rfl, _, ⟨fr, hh, _⟩, _⟩
      · simp [Value.ownBlock] at hq
      · have : g' = q := by simpa [Value.ownBlock] using hq
        subst this
        exact (Array.getElem?_eq_some_iff.1 hh).1
    refine ⟨sz, cells, h1, h2, h3.kept ⟨hd.ext.os, hd.ext.tape, hd.ext.output, hd.ext.size, fun i hi _ => (hd.ext.foreign i hi (hnf i)).1⟩ (row := none) (by cases u.ownBlock <;> simp), fun q hq => ⟨(h4 q hq).1, ?_⟩⟩
    show G'.lim q = _
    rw [(hd.ext.foreign q (hlt q hq) (hnf q)).2.1]
    exact (h4 q hq).2
  cases hr
  refine ⟨.bool b, Gh.mk G'.lim G.f G.bs G.owner, rfl, hext, ⟨fun id q hq => ?_, fun q hq => ?_, hext.held g.held⟩, ⟨hH.dom, fun id q k hq hk => ?_, hH.inj, fun id q k hq hk hn => ?_⟩, .bool b, ⟨fun id off q k cs hm hf hk hb => ?_, ho.dom⟩⟩
  · obtain ⟨a1, a3⟩ := g.fin id q hq
    exact ⟨Nat.lt_of_lt_of_le a1 hd.ext.size, a3⟩
  · obtain ⟨a1, a2, a3⟩ := g.new q (Nat.le_trans hd.ext.size hq)
    exact ⟨(hd.ok.new q hq).1, a2, a3⟩
  · exact (hH.blk id q k hq hk).to (hd.ext.foreign q (g.fin id q hq).1 (hnf q)).1 rfl hext.mem
  · show G'.lim q = 0
    rw [(hd.ext.foreign q (g.fin id q hq).1 (hnf q)).2.1]; exact hH.lim id q k hq hk hn
  · rw [(hd.ext.foreign q (g.fin id q hf).1 (hnf q)).1] at hb
    exact hkeep _ _ _ (ho.cell id off q k cs hm hf hk hb)

end
end Go.Proofs.YtklecelgejlihaaGreatDoor.Am

/- Functions of the library, told by heart: what they answer is told by their arguments' values, and nobody's memory is turned. -/
namespace Go.Proofs.YtklecelgejlihaaGreatDoor.Am
set_option linter.unusedVariables false
set_option linter.unusedSimpArgs false
open Go.RowKit

abbrev ShortF := Nat → List AV → List (Option Blk) → List Loc → Option Out
def quiet (F : List AV → Option AV) : ShortF := fun _ args H own => (F args).map fun x => (x, H, own)
/-- A law by heart is right, and local. -/
structure ShortOk (P : Program) (f : FuncId) (g : ShortF) : Prop where
  sound : ∀ lo, CallSound P ⟨fun f' args H own => if f' = f then g lo args H own else none, lo⟩
  loc : ∀ lo, CallLock ⟨fun f' args H own => if f' = f then g lo args H own else none, lo⟩ ∧ CallFill ⟨fun f' args H own => if f' = f then g lo args H own else none, lo⟩
/-- What a contract says of a function. -/
def QuietAt (P : Program) (f : FuncId) (F : List AV → Option AV) : Prop := ∀ args x, F args = some x → ∀ (G : Gh) (w : World) (vals : Array Value), GOk G w → ArgsRep P (G.mem w) args vals →
  Calls P f vals w fun e w' => ∃ v, e = .returned v ∧ Below w.heap.size w w' ∧ (Rep P (G.mem w') x v ∨ ∃ n, w.heap.size < w'.heap.size ∧ Rep P ((G.list w.heap.size n none).mem w') x v)

section
variable {P : Program}
theorem below_grow {G : Gh} {w w' : World} (hb : Below w.heap.size w w') : Grow G w G w' := ⟨hb, fun _ _ => rfl, fun _ _ => rfl, fun _ _ => rfl, fun _ _ h => h, fun _ _ h => .inl h⟩
theorem below_gok {G : Gh} {w w' : World} (g : GOk G w) (hb : Below w.heap.size w w') : GOk G w' :=
  ⟨fun id b h => ⟨Nat.lt_of_lt_of_le (g.fin id b h).1 hb.size, (g.fin id b h).2⟩, fun b h => g.new b (Nat.le_trans hb.size h), ((below_grow hb).ext g).held g.held⟩
theorem cellOwns_grow {G G' : Gh} {w w' : World} {H : List (Option Blk)} {own : List Loc} (gr : Grow G w G' w') (g : GOk G w) (hf : ∀ id b, G'.f id = some b → G.f id = some b) (ho : CellOwns P G H own w) : CellOwns P G' H own w' :=
  ⟨fun id off b k cs hm hi hk hb => (ho.cell id off b k cs hm (hf id b hi) hk (by rw [← gr.below.block b (g.fin id b (hf id b hi)).1]; exact hb)).grow gr, ho.dom⟩
theorem quiet_ok {f : FuncId} {F : List AV → Option AV} (h : QuietAt P f F) : ShortOk P f (quiet F) where
  sound := by
    intro lo f1 args H own out hc G w vals g hH ho ha
    simp only at hc
    split at hc
    case isFalse => cases hc
    rename_i he
    subst he
    unfold quiet at hc
    cases hx : F args with
    | none => rw [hx] at hc; cases hc
    | some x =>
      rw [hx] at hc
      injection hc with hc
      subst hc
      refine (h args x hx G w vals g ha).mono ?_
      rintro e w' ⟨v, rfl, hb, hr | ⟨n, hlt, hr⟩⟩
      · exact ⟨v, G, rfl, ⟨(below_grow hb).ext g, below_gok g hb, hH.grow (below_grow hb) g (fun _ _ h => h), hr, cellOwns_grow (below_grow hb) g (fun _ _ h => h) ho⟩⟩
      · exact ⟨v, _, rfl, ⟨(list_grow g hb n none).ext g, list_gok g hb hlt n none, hH.grow (list_grow g hb n none) g (fun _ _ h => h), hr, cellOwns_grow (list_grow g hb n none) g (fun _ _ h => h) ho⟩⟩
  loc := by
    intro lo
    constructor
    · intro f args H own x H' own' h _
      simp only at h
      split at h
      case isFalse => cases h
      unfold quiet at h
      cases hx : F args with
      | none => rw [hx] at h; cases h
      | some y => rw [hx] at h; injection h with h; injection h with h1 h; injection h with h2 h3; subst h2; exact Lock.refl _ _
    · intro f args H own x H' own' p k h hp
      simp only at h ⊢
      split at h
      case isFalse => cases h
      rename_i he
      rw [if_pos he]
      unfold quiet at h ⊢
      cases hx : F args with
      | none => rw [hx] at h; cases h
      | some y => rw [hx] at h; injection h with h; injection h with h1 h; injection h with h2 h3; subst h1 h2 h3; exact ⟨hp, rfl⟩
theorem idle_ok (hP : POk P) {K : Know} (hS : ShortSound P K) (hL : ShortLocal K) {f0 : FuncId} {b : Bool} {n : Nat} {H' : List (Option Blk)} {own' : List Loc} (h : callK P n K f0 [] [] [] = some (.bool b, H', own')) : ShortOk P f0 (idleF b) := ⟨idle_sound hP hS hL h, idle_local⟩

/-- The laws by heart, in a list. -/
def findS : List (FuncId × ShortF) → FuncId → Option ShortF
  | [], _ => none
  | (f, g) :: r, f' => cond (Nat.beq f f') (some g) (findS r f')
def AllOk (P : Program) : List (FuncId × ShortF) → Prop
  | [] => True
  | (f, g) :: r => ShortOk P f g ∧ AllOk P r
theorem findS_ok : ∀ {l : List (FuncId × ShortF)}, AllOk P l → ∀ {f : FuncId} {g : ShortF}, findS l f = some g → ShortOk P f g
  | [], _, f, g, h => by cases h
  | (f0, g0) :: r, hl, f, g, h => by
    unfold findS at h
    cases hb : Nat.beq f0 f with
    | true => rw [hb] at h; injection h with h; subst h; exact (Nat.eq_of_beq_eq_true hb) ▸ hl.1
    | false => rw [hb] at h; exact findS_ok hl.2 h
theorem short_sound {K : Know} {l : List (FuncId × ShortF)} (hK : K.short = findS l) (hl : AllOk P l) : ShortSound P K := fun f g h lo => (findS_ok hl (hK ▸ h)).sound lo
theorem short_local {K : Know} {l : List (FuncId × ShortF)} (hK : K.short = findS l) (hl : AllOk P l) : ShortLocal K := fun f g h lo => (findS_ok hl (hK ▸ h)).loc lo
end
section
variable {P : Program} {K : Know} {H : Hp} {cl : Cl}
end
end Go.Proofs.YtklecelgejlihaaGreatDoor.Am
