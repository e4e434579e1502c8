/- The abstract machine is right, fifteenth part: statements, functions, and all of it. -/
import Derived.Test.YtnajopkaepjncaaAm18
namespace Go.Proofs.Ytnajopkaepjncaa.Am
set_option linter.unusedVariables false
set_option linter.unusedSimpArgs false
open Go.RowKit

/-! ### what is asked of a region that draws its order, by its text -/
def opSlots (o : Oper) : List Nat := o.op.operands.toList.filterMap fun
  | .tmp t => some t
  | _ => none
def guardSlot (ops : List Oper) (o : Oper) : List Nat :=
  match o.guard with
  | some (j, _) => match ops[j]? with
    | some p => p.dst.toList
    | none => []
  | none => []
def reads (ops : List Oper) (o : Oper) : List Nat := guardSlot ops o ++ opSlots o
/-- Which operations stand ahead of each, by the edges: their numbers' bits. -/
def ahead (acc : List Nat) (l : List Edge) (m : Nat) : Nat :=
  match l with
  | [] => m
  | e :: r => ahead acc r (cond (Region.binds .any e) (m ||| (1 <<< e.on) ||| acc.getD e.on 0) m)
def befores : List Oper → List Nat → List Nat
  | [], acc => acc
  | o :: r, acc => befores r (acc ++ [ahead acc o.after.toList 0])
def heapOp (o : Oper) : Bool :=
  match o.op with
  | .store _ _ _ => true
  | .call { callee := .value _, .. } => true
  | .call { callee := .invoke _ _, .. } => true
  | _ => false
def memOp (o : Oper) : Bool :=
  heapOp o || match o.op with
    | .load _ _ => true
    | .alloc _ => true
    | .box _ _ => true
    | _ => false
def isStore (o : Oper) : Bool :=
  match o.op with
  | .store _ _ _ => true
  | _ => false
def isLoad (o : Oper) : Bool :=
  match o.op with
  | .load _ _ => true
  | _ => false
def pairOk (ops : List Oper) (bs : List Nat) (i j : Nat) (x y : Oper) : Bool :=
  (bs.getD j 0).testBit i ||
    (!(match x.dst with | some d => (reads ops y).contains d || y.dst == some d | none => false) && !(match y.dst with | some d => (reads ops x).contains d | none => false) &&
     !(ends ops x && ends ops y) && (!((heapOp x && memOp y) || (memOp x && heapOp y)) || (late ops && ((isStore x && isLoad y) || (isLoad x && isStore y)))))
def regionOk (ops : List Oper) : Bool :=
  let bs := befores ops []
  (ops.zipIdx.all fun (o, i) => o.after.toList.all fun e => !(Region.binds .any e) || Nat.blt e.on i) &&
  (ops.zipIdx.all fun (o, i) => match o.guard with | some (j, _) => (bs.getD i 0).testBit j | none => true) &&
  ops.zipIdx.all fun (y, j) => ops.zipIdx.all fun (x, i) => !(Nat.blt i j) || (pairOk ops bs i j x y && (match x.dst with | some d => !(y.dst == some d) | none => true))
def codeOk : Code → Bool
  | .region _ ops draw => !draw || regionOk ops.toList
  | .seq a b => codeOk a && codeOk b
  | .cond _ a b => codeOk a && codeOk b
  | .block _ c => codeOk c
  | .loop c => codeOk c
  | _ => true

section
variable {P : Program}

def DrawThm (P : Program) : Prop := ∀ (call : CallA), CallSound P call → ∀ (nt id : Nat) (ops : Array Oper) (st st' : St) (G : Gh) (a : Act) (w : World), regionOk ops.toList = true → runOps call P nt (some (st.H.length, late ops.toList)) ops.toList ops.toList { st with H := st.H ++ List.replicate (allocs ops.toList) none } = some st' → Rel P G nt st a w →
  ∀ Q, (∀ a' w' G', Rel P G' nt st' a' w' → Ext G w G' w' → Q Exit.normal a' w') → (Code.region id ops true).wp P Q a w

structure POk (P : Program) : Prop where
  num : NoNum P
  code : ∀ (f : Nat) (fn : Func) (c : Code), P.funcs[f]? = some fn → fn.body = some c → codeOk c = true
  draw : DrawThm P

theorem yielded_rel {w : World} {M : Mem} {ops : Array Oper} {env : List (Nat × AV)} {a : Act} (he : EnvRel P M env a) {o : Oper} {b : Bool} (h : wantedA ops.toList env o = some b) : Region.wanted o (yielded ops a.tmps) = b := by
  unfold wantedA at h
  unfold Region.wanted
  split at h
  · rename_i hg; injection h with h; subst h; rw [hg]
  · rename_i j want hg
    rw [hg]
    simp only
    split at h
    · rename_i d op ty pos after guard hj
      have hj' : ops[j]? = some { dst := some d, op := op, type := ty, pos := pos, after := after, guard := guard } := by rw [← hj, Array.getElem?_toList]
      have hr := he d
      unfold yielded
      rw [hj']
      simp only [Option.bind_some]
      split at h
      · rename_i q hq
        injection h with h; subst h
        rw [hq] at hr
        have := bool_inv hr
        rw [Array.getD_eq_getD_getElem?] at this
        cases ht : a.tmps[d]? with
        | none => rw [ht] at this; cases this
        | some v =>
          rw [ht] at this
          have hv : v = .bool q := this
          subst hv
          cases q <;> cases want <;> rfl
      · rename_i hq
        injection h with h; subst h
        rw [hq] at hr
        rw [Array.getD_eq_getD_getElem?] at hr
        cases ht : a.tmps[d]? with
        | none => cases want <;> rfl
        | some v =>
          rw [ht] at hr
          have hr' : Rep P M (.tup []) v := hr
          cases hr'
          cases want <;> rfl
      · cases h
    · cases h

theorem unwanted_put {nt : Nat} {w : World} {st st' : St} {a : Act} {G : Gh} {dst : Option Nat} (hR : Rel P G nt st a w) (hp : Res.put ⟨.tup [], st.H, st.own, false⟩ nt st.env dst = some st') : Rel P G nt st' (a.put dst undef) w := by
  obtain ⟨d0, hd0⟩ := fresh_slot st.own
  obtain ⟨d, hd1, hd2⟩ : ∃ d, (∀ q, dst = some q → q = d) ∧ (dst = none → Loc.slot d ∉ st.own) := by
    cases hdst : dst with
    | none => exact ⟨d0, (fun q e => by cases e), fun _ => hd0⟩
    | some q => exact ⟨q, (fun q' e => by injection e with e; exact e.symm), fun e => by cases e⟩
  exact (put_sound hR hp d hd1 hd2 (done_same hR.ok hR.heap hR.own d (.tup [] #[] rfl (fun i hi => by simp at hi)))).1

/-- A region in the order of its text. -/
theorem list_sound {call : CallA} {nt : Nat} {ops : Array Oper} (hN : NoNum P) (hcall : CallSound P call) : ∀ (l : List Oper) (st st' : St) (G : Gh) (a : Act) (w : World), runOps call P nt none ops.toList l st = some st' → Rel P G nt st a w →
    ∀ Q, (∀ a' w' G', Rel P G' nt st' a' w' → Ext G w G' w' → Q Exit.normal a' w') → wpList P ops Q l a w := by
  intro l
  induction l with
  | nil =>
    intro st st' G a w h hR Q hQ
    simp only [runOps, Option.some.injEq] at h; subst h
    exact hQ a w G hR (Ext.refl _ _)
  | cons o r ih =>
    intro st st' G a w h hR Q hQ
    simp only [runOps] at h
    split at h
    case h_2 => cases h
    rename_i st1 hst1
    unfold stepW at hst1
    refine wpList_step fun K hK => ?_
    split at hst1
    · rename_i hw
      rw [yielded_rel (w := w) hR.env hw, if_pos rfl]
      exact op_wp hN hcall hR hst1 fun a' w' G' hR' hE => hK _ _ (ih st1 st' G' a' w' h hR' Q fun a2 w2 G2 h2 e2 => hQ a2 w2 G2 h2 (hE.trans e2))
    · rename_i hw
      rw [yielded_rel (w := w) hR.env hw]
      simp only [Bool.false_eq_true, if_false]
      exact hK _ _ (ih st1 st' G _ w h (unwanted_put hR hst1) Q hQ)
    · cases hst1

theorem keep_rel {nt : Nat} {G : Gh} {st : St} {a : Act} {w : World} (vars : List Nat) (h : Rel P G nt st a w) : Rel P G nt (keep vars st) a w := by
  have hlook : ∀ s, look (keep vars st).env s = look st.env s ∨ (look (keep vars st).env s = .undef ∧ vars.any (Nat.beq s) = false) := by
    intro s
    show look (vars.map fun s => (s, look st.env s)) s = _ ∨ _
    induction vars with
    | nil => exact .inr ⟨rfl, rfl⟩
    | cons v r ih =>
      simp only [List.map_cons, look_cons]
      by_cases hs : s = v
      · subst hs; rw [if_pos rfl]; exact .inl rfl
      · rcases ih with ih | ⟨ih1, ih2⟩
        · rw [if_neg hs]; exact .inl ih
        · refine .inr ⟨by show look ((v, look st.env v) :: _) s = _; rw [look_cons, if_neg hs]; exact ih1, ?_⟩
          simp only [List.any_cons, ih2, Bool.or_false]
          cases hb : Nat.beq s v with
          | false => rfl
          | true => exact absurd (Nat.eq_of_beq_eq_true hb) hs
  refine ⟨h.ok, h.heap, ⟨?_, ?_, ?_⟩, ?_, h.size, h.defers⟩
  · intro s hs
    have hm := List.mem_filter.1 hs
    have := h.own.slot s hm.1
    rcases hlook s with e | ⟨_, e2⟩
    · rw [e]; exact this
    · have h2 : vars.any (Nat.beq s) = true := hm.2
      rw [e2] at h2; cases h2
  · intro id off b k cs hm
    exact h.own.cell id off b k cs (List.mem_filter.1 hm).1
  · intro id off hm
    exact h.own.dom id off (List.mem_filter.1 hm).1
  · intro s
    rcases hlook s with e | ⟨e, _⟩
    · rw [e]; exact h.env s
    · rw [e]; exact .undef _

def exitOf : Ex → Exit
  | .normal => .normal
  | .exit id => .exit id
  | .ret => .ret

def CodeSound (P : Program) (ex : (Nat → List Nat) → Nat → Code → St → Option (Ex × St)) : Prop := ∀ vars nt c st e st', ex vars nt c st = some (e, st') → codeOk c = true → ∀ G a w, Rel P G nt st a w →
  ∀ Q, (∀ a' w' G', Rel P G' nt st' a' w' → Ext G w G' w' → Q (exitOf e) a' w') → c.wp P Q a w

theorem loop_sound {K : Know} {vars : Nat → List Nat} {nt : Nat} {c : Code} {e : Ex} {st' : St} (hok : codeOk c = true) {G0 : Gh} {w0 : World} {Q : Exit → Act → World → Prop}
    (hQ : ∀ a' w' G', Rel P G' nt st' a' w' → Ext G0 w0 G' w' → Q (exitOf e) a' w') (n : Nat) (hall : ∀ m, m < n → CodeSound P (exec P K m)) (st : St) (G : Gh) (a : Act) (w : World) (h : exec P K n vars nt (.loop c) st = some (e, st')) (hR : Rel P G nt st a w) (hE : Ext G0 w0 G w) :
    (Code.loop c).wp P Q a w := by
  intro b k cs
  have key : ∀ m, m ≤ n → ∀ st G a w, exec P K m vars nt (.loop c) st = some (e, st') → Rel P G nt st a w → Ext G0 w0 G w →
      ∃ e' a' w', Q e' a' w' ∧ Arrives P (lone (b.at a (.code c :: .inLoop c :: k)) cs w) b k cs e' a' w' := by
    intro m
    induction m with
    | zero => intro _ st G a w h1; simp [exec] at h1
    | succ m ih =>
      intro hmn st1 G1 a1 w1 h1 hR1 hE1
      have hs := hall m (by omega)
      simp only [exec, execWith] at h1
      have body : ∀ Q1 : Exit → Act → World → Prop, c.wp P Q1 a1 w1 → ∃ e' a' w', Q1 e' a' w' ∧ Arrives P (lone (b.at a1 (.code c :: .inLoop c :: k)) cs w1) b (.inLoop c :: k) cs e' a' w' := fun Q1 h => h b (.inLoop c :: k) cs
      split at h1
      · rename_i st2 hst2
        obtain ⟨e2, a2, w2, hq, harr⟩ := body (Exit.then (fun a' w' => ∃ G2, Rel P G2 nt st2 a' w' ∧ Ext G0 w0 G2 w') Q) (hs vars nt c st1 .normal st2 hst2 hok G1 a1 w1 hR1 _ fun a2 w2 G2 hR2 hE2 => ⟨G2, hR2, hE1.trans hE2⟩)
        cases e2 with
        | normal =>
          obtain ⟨G2, hR2, hE2⟩ := hq
          obtain ⟨e3, a3, w3, hq3, harr3⟩ := ih (by omega) st2 G2 a2 w2 h1 hR2 hE2
          exact ⟨e3, a3, w3, hq3, .of_steps (Steps.trans harr (.one step_inLoop)) harr3⟩
        | exit id => exact ⟨_, a2, w2, hq, .pass (x := .inLoop c) rfl (fun _ _ => .inl (by simp)) harr⟩
        | goto l => exact ⟨_, a2, w2, hq, .pass (x := .inLoop c) rfl (fun _ _ => .inl (by simp)) harr⟩
        | ret => exact ⟨_, a2, w2, hq, .pass (x := .inLoop c) rfl (fun _ _ => .inl (by simp)) harr⟩
        | panic ch => exact ⟨_, a2, w2, hq, .pass (x := .inLoop c) rfl (fun _ _ => .inl (by simp)) harr⟩
        | outgrown => exact ⟨_, a2, w2, hq, .pass (x := .inLoop c) rfl (fun _ _ => .inl (by simp)) harr⟩
      · rename_i r hne
        obtain ⟨e2, a2, w2, hq, harr⟩ := body (Exit.then (fun _ _ => False) Q) (hs vars nt c st1 e st' h1 hok G1 a1 w1 hR1 _ fun a2 w2 G2 hR2 hE2 => by
          cases e with
          | normal => exact absurd h1 (hne st')
          | exit id' => exact hQ a2 w2 G2 hR2 (hE1.trans hE2)
          | ret => exact hQ a2 w2 G2 hR2 (hE1.trans hE2))
        cases e2 with
        | normal => exact hq.elim
        | exit id => exact ⟨_, a2, w2, hq, .pass (x := .inLoop c) rfl (fun _ _ => .inl (by simp)) harr⟩
        | goto l => exact ⟨_, a2, w2, hq, .pass (x := .inLoop c) rfl (fun _ _ => .inl (by simp)) harr⟩
        | ret => exact ⟨_, a2, w2, hq, .pass (x := .inLoop c) rfl (fun _ _ => .inl (by simp)) harr⟩
        | panic ch => exact ⟨_, a2, w2, hq, .pass (x := .inLoop c) rfl (fun _ _ => .inl (by simp)) harr⟩
        | outgrown => exact ⟨_, a2, w2, hq, .pass (x := .inLoop c) rfl (fun _ _ => .inl (by simp)) harr⟩
  obtain ⟨e', a', w', hq, harr⟩ := key n (Nat.le_refl _) st G a w h hR hE
  exact ⟨e', a', w', hq, .of_steps (.one step_loop) harr⟩

theorem code_step {K : Know} (hP : POk P) (n : Nat) (hcall : CallSound P (callN P K n)) (hall : ∀ m, m < n + 1 → CodeSound P (exec P K m)) : CodeSound P (exec P K (n + 1)) := by
  have hex := hall n (Nat.lt_succ_self n)
  intro vars nt c st e st' h hok G a w hR Q hQ
  have hfull := h
  simp only [exec] at h
  cases c with
  | skip => simp only [execWith, Option.some.injEq, Prod.mk.injEq] at h; obtain ⟨rfl, rfl⟩ := h; exact wp_skip (hQ a w G hR (Ext.refl _ _))
  | region id ops draw =>
    simp only [execWith] at h
    split at h
    · rename_i st1 hst1
      injection h with h; injection h with h1 h2; subst h1; subst h2
      have hQ' : ∀ a' w' G', Rel P G' nt st1 a' w' → Ext G w G' w' → Q Exit.normal a' w' := fun a' w' G' h1 h2 => hQ a' w' G' (keep_rel (vars id) h1) h2
      cases draw with
      | false => exact wp_region_list (list_sound hP.num hcall ops.toList st st1 G a w hst1 hR Q hQ')
      | true =>
        simp only [codeOk, Bool.not_true, Bool.false_or] at hok
        exact hP.draw _ hcall nt id ops st st1 G a w hok hst1 hR Q hQ'
    · cases h
  | seq x y =>
    simp only [execWith] at h
    simp only [codeOk, Bool.and_eq_true] at hok
    split at h
    · rename_i st1 hst1
      refine wp_seq (hex vars nt x st .normal st1 hst1 hok.1 G a w hR _ ?_)
      intro a1 w1 G1 hR1 hE1
      exact hex vars nt y st1 e st' h hok.2 G1 a1 w1 hR1 Q fun a2 w2 G2 h2 e2 => hQ a2 w2 G2 h2 (hE1.trans e2)
    · rename_i r hne
      refine wp_seq (hex vars nt x st e st' h hok.1 G a w hR _ ?_)
      intro a1 w1 G1 hR1 hE1
      cases e with
      | normal => exact absurd h (hne st')
      | exit id => exact hQ a1 w1 G1 hR1 hE1
      | ret => exact hQ a1 w1 G1 hR1 hE1
  | cond c x y =>
    simp only [execWith] at h
    simp only [codeOk, Bool.and_eq_true] at hok
    split at h
    · rename_i t ht
      have := bool_inv (hR.env.opd ht)
      refine wp_cond this ?_
      cases t with
      | true => exact hex vars nt x st e st' h hok.1 G a w hR Q hQ
      | false => exact hex vars nt y st e st' h hok.2 G a w hR Q hQ
    · cases h
  | block id c =>
    simp only [execWith] at h
    simp only [codeOk] at hok
    split at h
    · rename_i i st1 hst1
      refine wp_block (hex vars nt c st (.exit i) st1 hst1 hok G a w hR _ ?_)
      intro a1 w1 G1 hR1 hE1
      cases hi : Nat.beq i id with
      | true =>
        rw [hi] at h; simp only [cond_true, Option.some.injEq, Prod.mk.injEq] at h
        obtain ⟨rfl, rfl⟩ := h
        have := Nat.eq_of_beq_eq_true hi
        show Exit.inBlock id Q (.exit i) a1 w1
        simp only [Exit.inBlock, this, if_true]
        exact hQ a1 w1 G1 hR1 hE1
      | false =>
        rw [hi] at h; simp only [cond_false, Option.some.injEq, Prod.mk.injEq] at h
        obtain ⟨rfl, rfl⟩ := h
        show Exit.inBlock id Q (.exit i) a1 w1
        have hne : i ≠ id := by rintro rfl; rw [Nat.beq_refl] at hi; cases hi
        simp only [Exit.inBlock, hne, if_false]
        exact hQ a1 w1 G1 hR1 hE1
    · rename_i r hne
      refine wp_block (hex vars nt c st e st' h hok G a w hR _ ?_)
      intro a1 w1 G1 hR1 hE1
      cases e with
      | normal => exact hQ a1 w1 G1 hR1 hE1
      | exit id' => exact absurd h (hne id' st')
      | ret => exact hQ a1 w1 G1 hR1 hE1
  | loop c => exact loop_sound (by simpa only [codeOk] using hok) hQ (n + 1) hall st G a w hfull hR (Ext.refl _ _)
  | exit id => simp only [execWith, Option.some.injEq, Prod.mk.injEq] at h; obtain ⟨rfl, rfl⟩ := h; exact wp_exit (hQ a w G hR (Ext.refl _ _))
  | label l => simp only [execWith, Option.some.injEq, Prod.mk.injEq] at h; obtain ⟨rfl, rfl⟩ := h; exact wp_label (hQ a w G hR (Ext.refl _ _))
  | ret => simp only [execWith, Option.some.injEq, Prod.mk.injEq] at h; obtain ⟨rfl, rfl⟩ := h; exact wp_ret (hQ a w G hR (Ext.refl _ _))
  | rangeFunc f ps as b => cases h
  | scope c => cases h
  | goto l => cases h
  | refuse s => cases h

theorem look_zip : ∀ (args : List AV) (k s : Nat), look (zipArgs k args) s = if k ≤ s then args.getD (s - k) .undef else .undef := by
  intro args
  induction args with
  | nil => intro k s; simp [zipArgs, look]
  | cons x r ih =>
    intro k s
    simp only [zipArgs]
    rw [look_cons, ih]
    by_cases h : s = k
    · subst h; rw [if_pos rfl, if_pos (Nat.le_refl _), Nat.sub_self]; rfl
    · rw [if_neg h]
      by_cases hk : k ≤ s
      · rw [if_pos (by omega), if_pos hk]
        have : s - k = (s - (k + 1)) + 1 := by omega
        rw [this, List.getD_cons_succ]
      · rw [if_neg (by omega), if_neg hk]

def resSem (tmps : Array Value) : ResultVar → Sem Value
  | .tmp t => pure (tmps.getD t undef)
  | .cell a t => do loadVar t (← asAddr (tmps.getD a undef))
theorem result_sound {G : Gh} {nt : Nat} {st : St} {a : Act} {w : World} (hR : Rel P G nt st a w) {r : ResultVar} {x : AV} (h : resultA P st r = some x) :
    ∃ v, (resSem a.tmps r).run P w = .ok v w ∧ Rep P (G.mem w) x v := by
  cases r with
  | tmp t => simp only [resultA, Option.some.injEq] at h; subst h; exact ⟨_, rfl, hR.env t⟩
  | cell ad t =>
    simp only [resultA] at h
    split at h
    · rename_i id off hl
      have r1 := hR.env ad
      rw [hl] at r1
      obtain ⟨u, hu, ru, _⟩ := load_sound h r1 (fun id off b k _ hf hk => hR.heap.blk id b k hf hk)
      generalize hv : a.tmps.getD ad undef = v at r1 hu
      cases r1 with
      | ptr _ _ b hf =>
        refine ⟨u, ?_, ru⟩
        simp only [resSem, hv, asAddr, Sem.run_bind, Sem.run_pure, Result.andThen_ok]
        simpa only [Instr.loadAt, Instr.sureAddr, Sem.run_bind, Sem.run_pure, Result.andThen_ok] using hu
    · cases h

theorem results_sound {G : Gh} {nt : Nat} {st : St} {a : Act} {w : World} (hR : Rel P G nt st a w) {fn : Func} {x : AV} (h : resultsA P st fn.results.toList = some x) : ∃ v, (results fn a.tmps).run P w = .ok v w ∧ Rep P (G.mem w) x v := by
  have key : ∀ (rs : List ResultVar) (xs : List AV), rs.mapM (resultA P st) = some xs → ∃ vs : List Value, (rs.mapM (resSem a.tmps)).run P w = .ok vs w ∧ vs.length = xs.length ∧ ∀ i, i < xs.length → Rep P (G.mem w) (xs.getD i .undef) (vs.getD i undef) := by
    intro rs
    induction rs with
    | nil => intro xs h; simp at h; subst h; exact ⟨[], rfl, rfl, fun i hi => by simp at hi⟩
    | cons r rs ih =>
      intro xs h
      rw [List.mapM_cons] at h
      cases hr : resultA P st r with
      | none => simp [hr] at h
      | some y =>
        cases hrs : rs.mapM (resultA P st) with
        | none => simp [hr, hrs] at h
        | some ys =>
          simp [hr, hrs] at h; subst h
          obtain ⟨v, hv, rv⟩ := result_sound hR hr
          obtain ⟨vs, h1, h2, h3⟩ := ih ys hrs
          refine ⟨v :: vs, ?_, by simp [h2], ?_⟩
          · simp only [List.mapM_cons, Sem.run_bind, hv, Result.andThen_ok, h1, Sem.run_pure]
          · intro i hi
            cases i with
            | zero => exact rv
            | succ i =>
              simp only [List.length_cons] at hi
              have := h3 i (by omega)
              simpa [List.getD_eq_getElem?_getD] using this
  have hrun : ∀ vs : List Value, (fn.results.toList.mapM (resSem a.tmps)).run P w = .ok vs w → (results fn a.tmps).run P w = .ok (if h : vs.toArray.size = 1 then vs.toArray[0] else .tuple vs.toArray) w := by
    intro vs hvs
    have hres : results fn a.tmps = (do let vs ← fn.results.mapM (resSem a.tmps); pure (if h : vs.size = 1 then vs[0] else .tuple vs)) := rfl
    rw [hres, Array.mapM_eq_mapM_toList]
    simp only [Sem.run_bind, Sem.run_map, hvs, Result.andThen_ok, Sem.run_pure]
  unfold resultsA at h
  split at h
  · rename_i rs r heq
    have hm : fn.results.toList.mapM (resultA P st) = some [x] := by rw [heq]; simp [h]
    obtain ⟨vs, h1, h2, h3⟩ := key _ _ hm
    simp only [List.length_cons, List.length_nil] at h2
    have hr := hrun vs h1
    obtain ⟨v, rfl⟩ : ∃ v, vs = [v] := by
      cases vs with
      | nil => cases h2
      | cons v r => cases r with
        | nil => exact ⟨v, rfl⟩
        | cons _ _ => simp at h2
    exact ⟨v, hr, h3 0 (by simp)⟩
  · rename_i rs hne
    cases hm : fn.results.toList.mapM (resultA P st) with
    | none => rw [hm] at h; cases h
    | some xs =>
      rw [hm] at h; simp only [Option.map_some, Option.some.injEq] at h; subst h
      obtain ⟨vs, h1, h2, h3⟩ := key _ _ hm
      have hr := hrun vs h1
      have hl : vs.length ≠ 1 := by
        intro e
        rw [e] at h2
        have : ∀ (rs : List ResultVar) (xs : List AV), rs.mapM (resultA P st) = some xs → rs.length = xs.length := by
          intro rs
          induction rs with
          | nil => intro xs h; simp at h; subst h; rfl
          | cons r rs ih =>
            intro xs h
            rw [List.mapM_cons] at h
            cases hr : resultA P st r with
            | none => simp [hr] at h
            | some y =>
              cases hrs : rs.mapM (resultA P st) with
              | none => simp [hr, hrs] at h
              | some ys => simp [hr, hrs] at h; subst h; simp [ih ys hrs]
        have hlen := this _ _ hm
        rw [← h2] at hlen
        obtain ⟨q, hq⟩ := List.length_eq_one_iff.1 hlen
        exact hne q hq
      have hs : ¬ (vs.toArray.size = 1) := by simpa using hl
      rw [dif_neg hs] at hr
      refine ⟨_, hr, .tup _ _ (by simpa using h2) ?_⟩
      intro i hi
      have := h3 i hi
      simpa [List.getD_eq_getElem?_getD, Array.getD_eq_getD_getElem?] using this

/-- What is taken on trust of the calls that go by a law of their own: that it is one. -/
def ShortSound (P : Program) (K : Know) : Prop := ∀ f g, K.short f = some g → CallSound P fun f' args H own => if f' = f then g args H own else none

theorem call_step {K : Know} (hP : POk P) (hS : ShortSound P K) (n : Nat) (hex : CodeSound P (exec P K n)) : CallSound P (callN P K (n + 1)) := by
  intro f args H own out h G w vals g hH ho har
  simp only [callN] at h
  split at h
  · rename_i q hq
    exact hS f q hq f args H own out (by show (if f = f then _ else _) = _; rw [if_pos rfl]; exact h) G w vals g hH ho har
  · unfold bodyA at h
    split at h
    case h_2 => cases h
    rename_i fn hfn
    split at h
    case h_2 => cases h
    rename_i c hc
    split at h
    case isFalse => cases h
    rename_i hle
    have hok := hP.code f fn c hfn hc
    have hdone : ∀ e st1, exec P K n (K.vars f) fn.ntmps c ⟨zipArgs 0 args, H, own.filter Loc.isCell⟩ = some (e, st1) → (e = .ret ∨ e = .normal) → (resultsA P st1 fn.results.toList).map (fun x => (x, st1.H, st1.own.filter Loc.isCell)) = some out →
        Calls P f vals w fun e w' => ∃ v G', e = .returned v ∧ CallDone P G w out v w' G' := by
      intro e st1 hst he hres
      cases hx : resultsA P st1 fn.results.toList with
      | none => rw [hx] at hres; cases hres
      | some x =>
        rw [hx] at hres; simp only [Option.map_some, Option.some.injEq] at hres; subst hres
        refine calls_of_wp hfn hc ?_
        have hR0 : Rel P G fn.ntmps ⟨zipArgs 0 args, H, own.filter Loc.isCell⟩ { tmps := vals ++ Array.replicate (fn.ntmps - vals.size) undef, defers := [] } w := by
          refine ⟨g, hH, ⟨?_, ?_, ?_⟩, ?_, ?_, rfl⟩
          · intro s hs; have := (List.mem_filter.1 hs).2; cases this
          · intro id off b k cs hm; exact ho.cell id off b k cs (List.mem_filter.1 hm).1
          · intro id off hm; exact ho.dom id off (List.mem_filter.1 hm).1
          · intro s
            show Rep P (G.mem w) (look (zipArgs 0 args) s) _
            rw [look_zip, if_pos (Nat.zero_le _), Nat.sub_zero]
            by_cases hs : s < args.length
            · have := har.2 s hs
              rw [Array.getD_eq_getD_getElem?] at this ⊢
              rw [Array.getElem?_append_left (by rw [har.1]; exact hs)]
              exact this
            · rw [List.getD_eq_getElem?_getD, List.getElem?_eq_none (by omega)]
              exact .undef _
          · simp only [Array.size_append, Array.size_replicate, har.1]; omega
        refine hex _ _ _ _ _ _ hst hok G _ w hR0 _ ?_
        intro a' w' G' hR' hE
        obtain ⟨v, hv, rv⟩ := results_sound hR' hx
        have hpost : ∃ v', (results fn a'.tmps).run P w' = .ok v' w' ∧ ∃ v G'', Ending.returned v' = .returned v ∧ CallDone P G w (x, st1.H, st1.own.filter Loc.isCell) v w' G'' :=
          ⟨v, hv, v, G', rfl, ⟨hE, hR'.ok, hR'.heap, rv, ⟨fun id off b k cs hm => hR'.own.cell id off b k cs (List.mem_filter.1 hm).1, fun id off hm => hR'.own.dom id off (List.mem_filter.1 hm).1⟩⟩⟩
        rcases he with rfl | rfl
        · exact ⟨hR'.defers, hpost⟩
        · exact ⟨hR'.defers, hpost⟩
    split at h
    · rename_i st1 hst; exact hdone _ _ hst (.inl rfl) h
    · rename_i st1 hst; exact hdone _ _ hst (.inr rfl) h
    · cases h

/-- ALL OF IT: what the machine says of a call, Go's program does. -/
theorem machine_sound {K : Know} (hP : POk P) (hS : ShortSound P K) : ∀ n, CallSound P (callN P K n) ∧ CodeSound P (exec P K n) := by
  intro n
  induction n using Nat.strongRecOn with
  | _ n ih =>
    cases n with
    | zero => exact ⟨fun f args H own out h => by simp [callN] at h, fun vars nt c st e st' h => by simp [exec] at h⟩
    | succ n =>
      have hn := ih n (Nat.lt_succ_self n)
      exact ⟨call_step hP hS n hn.2, code_step hP n hn.1 fun m hm => (ih m hm).2⟩

end
end Go.Proofs.Ytnajopkaepjncaa.Am
