/- The abstract machine is right, fourteenth part: an operation, with the calls. -/
import Derived.Test.YtnajopkaepjncaaAm17
namespace Go.Proofs.Ytnajopkaepjncaa.Am
set_option linter.unusedVariables false
set_option linter.unusedSimpArgs false
open Go.RowKit

section
variable {P : Program} {w : World}

/-! ### ends in order -/
theorem blt_irrefl (a : Nat) : Nat.blt a a = false := by
  cases h : Nat.blt a a with
  | false => rfl
  | true => have := Nat.blt_eq.mp h; omega
theorem lt_irrefl (x : Loc) : Loc.lt x x = false := by cases x <;> simp [Loc.lt, blt_irrefl]
theorem lt_trans' {x y z : Loc} (h : Loc.lt x y = true) (k : Loc.lt y z = true) : Loc.lt x z = true := by
  cases x <;> cases y <;> cases z <;> simp [Loc.lt] at h k ⊢ <;> omega
theorem lt_tri (x y : Loc) : Loc.lt x y = true ∨ x = y ∨ Loc.lt y x = true := by
  cases x <;> cases y <;> simp [Loc.lt] <;> omega
theorem mem_insL {x m : Loc} {l : List Loc} : m ∈ insL x l ↔ m = x ∨ m ∈ l := by
  induction l with
  | nil => simp [insL]
  | cons y r ih =>
    simp only [insL]
    cases h1 : Loc.lt x y with
    | true => simp
    | false =>
      cases h2 : Loc.beq x y with
      | true =>
        rw [beq_loc] at h2; subst h2
        simp
      | false =>
        simp only [cond_false, List.mem_cons, ih]
        constructor
        · rintro (h | h | h) <;> simp [h]
        · rintro (h | h | h) <;> simp [h]
theorem mem_canon {m : Loc} {l : List Loc} : m ∈ canon l ↔ m ∈ l := by
  induction l with
  | nil => simp [canon]
  | cons y r ih => show m ∈ insL y (canon r) ↔ _; rw [mem_insL, ih, List.mem_cons]
theorem sorted_insL {x : Loc} {l : List Loc} (h : l.Pairwise fun a b => Loc.lt a b = true) : (insL x l).Pairwise fun a b => Loc.lt a b = true := by
  induction l with
  | nil => simp [insL]
  | cons y r ih =>
    rw [List.pairwise_cons] at h
    simp only [insL]
    cases h1 : Loc.lt x y with
    | true =>
      simp only [cond_true]
      rw [List.pairwise_cons, List.pairwise_cons]
      exact ⟨fun a ha => by
        rcases List.mem_cons.1 ha with rfl | ha
        · exact h1
        · exact lt_trans' h1 (h.1 a ha), h⟩
    | false =>
      cases h2 : Loc.beq x y with
      | true => simp only [cond_false, cond_true]; rw [List.pairwise_cons]; exact h
      | false =>
        simp only [cond_false]
        rw [List.pairwise_cons]
        refine ⟨fun a ha => ?_, ih h.2⟩
        rcases mem_insL.1 ha with rfl | ha
        · rcases lt_tri a y with e | e | e
          · rw [e] at h1; cases h1
          · rw [beq_loc.2 e] at h2; cases h2
          · exact e
        · exact h.1 a ha
theorem sorted_canon (l : List Loc) : (canon l).Pairwise fun a b => Loc.lt a b = true := by
  induction l with
  | nil => exact List.Pairwise.nil
  | cons y r ih => exact sorted_insL ih
theorem sorted_ext : ∀ {l m : List Loc}, l.Pairwise (fun a b => Loc.lt a b = true) → m.Pairwise (fun a b => Loc.lt a b = true) → (∀ x, x ∈ l ↔ x ∈ m) → l = m
  | [], [], _, _, _ => rfl
  | [], y :: r, _, _, h => by have := (h y).2 (by simp); cases this
  | x :: l, [], _, _, h => by have := (h x).1 (by simp); cases this
  | x :: l, y :: m, hl, hm, h => by
    rw [List.pairwise_cons] at hl hm
    have hxy : x = y := by
      rcases List.mem_cons.1 ((h x).1 (by simp)) with e | e
      · exact e
      · rcases List.mem_cons.1 ((h y).2 (by simp)) with e' | e'
        · exact e'.symm
        · have := lt_trans' (hl.1 y e') (hm.1 x e); rw [lt_irrefl] at this; cases this
    subst hxy
    congr 1
    refine sorted_ext hl.2 hm.2 fun z => ?_
    constructor
    · intro hz
      rcases List.mem_cons.1 ((h z).1 (by simp [hz])) with e | e
      · subst e; have := hl.1 z hz; rw [lt_irrefl] at this; cases this
      · exact e
    · intro hz
      rcases List.mem_cons.1 ((h z).2 (by simp [hz])) with e | e
      · subst e; have := hm.1 z hz; rw [lt_irrefl] at this; cases this
      · exact e
theorem canon_ext {l m : List Loc} (h : ∀ x, x ∈ l ↔ x ∈ m) : canon l = canon m :=
  sorted_ext (sorted_canon l) (sorted_canon m) fun x => by rw [mem_canon, mem_canon]; exact h x

/-- No function of the program is the one that the model asks by name. -/
def NoNum (P : Program) : Prop := ∀ (f : Nat) (fn : Func), P.funcs[f]? = some fn → (fn.name == "runtime.NumGoroutine") = false

theorem run_callFunc {f : FuncId} (hN : NoNum P) (hb : hasBody P f = true) (args : Array Value) : (callFunc f args).run P w = .ok (.enter f args) w := by
  unfold hasBody at hb
  cases hf : P.funcs[f]? with
  | none => rw [hf] at hb; cases hb
  | some fn =>
    rw [hf] at hb
    have h1 := hN f fn hf
    have h2 : fn.body.isNone = false := by cases hbd : fn.body <;> simp [hbd] at hb ⊢
    simp only [callFunc, Sem.run_bind, run_program, Result.andThen_ok, hf, h1, h2, Bool.false_eq_true, if_false, Sem.run_pure]

theorem args_append {M : Mem} {xs ys : List AV} {us vs : Array Value} (h : ArgsRep P M xs us) (k : ArgsRep P M ys vs) : ArgsRep P M (xs ++ ys) (us ++ vs) := by
  refine ⟨by rw [Array.size_append, List.length_append, h.1, k.1], ?_⟩
  intro i hi
  rw [List.length_append] at hi
  simp only [List.getD_eq_getElem?_getD, Array.getD_eq_getD_getElem?]
  by_cases hlt : i < xs.length
  · have := h.2 i hlt
    simp only [List.getD_eq_getElem?_getD, Array.getD_eq_getD_getElem?] at this
    rw [List.getElem?_append_left hlt, Array.getElem?_append_left (by rw [h.1]; exact hlt)]
    exact this
  · have := k.2 (i - xs.length) (by omega)
    simp only [List.getD_eq_getElem?_getD, Array.getD_eq_getD_getElem?] at this
    rw [List.getElem?_append_right (by omega), Array.getElem?_append_right (by rw [h.1]; omega), h.1]
    exact this
theorem evalL_args {M : Mem} {env : List (Nat × AV)} {a : Act} (he : EnvRel P M env a) {xs : Array Operand} {vs : List AV} (h : evalL env xs.toList = some vs) : ArgsRep P M vs (xs.map a.eval) := by
  obtain ⟨h1, h2⟩ := evalL_rel xs.toList vs h (he.ops _)
  refine ⟨by simpa using h1, ?_⟩
  intro i hi
  have := h2 i hi
  simpa [List.getD_eq_getElem?_getD, Array.getD_eq_getD_getElem?] using this

/-- What the operation is, where it is a call: into which function, with what. -/
theorem call_enters {G : Gh} {env : List (Nat × AV)} {H : List (Option Blk)} {own : List Loc} {a : Act} {call : CallA} {ops : List Oper} {o : Oper} {r : Res} (hN : NoNum P)
    (g : GOk G w) (hH : HeapRel P G H w) (he : EnvRel P (G.mem w) env a) (hc : isCallOp o.op = true) (h : core call P ops o env H own = some r) :
    ∃ f args vals out, (execOp a.eval o).run P w = .ok (.enter f vals) w ∧ ArgsRep P (G.mem w) args vals ∧ call f args H (canon (own.filter Loc.isCell)) = some out ∧ r = ⟨out.1, out.2.1, own.filter (fun l => !l.isCell) ++ out.2.2.filter Loc.isCell, false⟩ := by
  have fin : ∀ f args vals, callA call P H own f args = some r → ArgsRep P (G.mem w) args vals → (execOp a.eval o).run P w = (callFunc f vals).run P w → ∃ f args vals out, (execOp a.eval o).run P w = .ok (.enter f vals) w ∧ ArgsRep P (G.mem w) args vals ∧ call f args H (canon (own.filter Loc.isCell)) = some out ∧ r = ⟨out.1, out.2.1, own.filter (fun l => !l.isCell) ++ out.2.2.filter Loc.isCell, false⟩ := by
    intro f args vals hca har hrun
    unfold callA at hca
    cases hb : hasBody P f with
    | false => rw [hb] at hca; cases hca
    | true =>
      rw [hb] at hca
      simp only [cond_true] at hca
      split at hca
      · rename_i x H' own' hcl
        injection hca with hca
        exact ⟨f, args, vals, _, hrun.trans (run_callFunc hN hb vals), har, hcl, hca.symm⟩
      · cases hca
  obtain ⟨dst, op, ty, pos, after, guard⟩ := o
  simp only at hc fin
  unfold isCallOp at hc
  split at hc
  case h_3 => cases hc
  · rename_i f args at_
    unfold core at h
    simp only at h
    split at h
    · rename_i q cap vs hf hvs
      have rf := he.opd hf
      generalize hfv : a.eval f = fv at rf
      cases rf with
      | fn _ _ caps hl hh =>
        refine fin q _ (args.map a.eval ++ caps) h (args_append (evalL_args he hvs) ⟨hl, hh⟩) ?_
        simp only [execOp, resolve, hfv, Deferred.ofValue, Sem.run_bind, Sem.run_pure, Result.andThen_ok, invoke, Array.empty_append]
    · cases h
  · rename_i rv name args at_
    unfold core at h
    simp only at h
    split at h
    · rename_i t v vs hr hvs
      have rr := he.opd hr
      generalize hrv : a.eval rv = iv at rr
      cases rr with
      | iface _ _ u ru =>
        split at h
        · rename_i f x hm
          have hargs := evalL_args he hvs
          -- the method
          have hmeth : ∃ xv, (method (P.types.size + Made.depth) t u name).run P w = .ok (f, xv) w ∧ Rep P (G.mem w) x xv := by
            have hmd : 0 < Made.depth := by decide
            obtain ⟨q, hq⟩ : ∃ q, P.types.size + Made.depth = q + 1 := ⟨P.types.size + Made.depth - 1, by omega⟩
            rw [hq]
            unfold methodA at hm
            split at hm
            · rename_i i hi
              split at hm
              · rename_i m hfind
                split at hm
                · rename_i hp0
                  have hpath : m.path.toList = [] := by
                    have : m.path = #[] := Array.eq_empty_of_size_eq_zero hp0
                    rw [this]
                  have hie : m.path.isEmpty = true := by simp [Array.isEmpty, hp0]
                  simp only [method, Sem.run_bind, run_typeInfo' hi, Result.andThen_ok, hfind, hpath, follow, Sem.run_pure]
                  split at hm
                  · rename_i f' pe hmf hu
                    injection hm with hm; injection hm with h1 h2; subst h1; subst h2
                    exact ⟨u, by simp only [hmf, Sem.run_bind, receiverAt, run_underlying' hu, Result.andThen_ok, Place.get, Sem.run_pure], ru⟩
                  · rename_i f' e hmf hu
                    split at hm
                    · rename_i id off
                      cases hl : loadA P H e (.ptr id off) with
                      | none => rw [hl] at hm; cases hm
                      | some y =>
                        rw [hl] at hm; simp only [Option.map_some, Option.some.injEq, Prod.mk.injEq] at hm
                        obtain ⟨h1, h2⟩ := hm; subst h1; subst h2
                        obtain ⟨z, hz, rz, _⟩ := load_sound hl ru (fun id off b k _ hf hk => hH.blk id b k hf hk)
                        cases ru with
                        | ptr _ _ b hfb =>
                          refine ⟨z, ?_, rz⟩
                          have hz' : (loadVar e ⟨b, off, none⟩).run P w = .ok z w := by
                            simpa only [Instr.loadAt, Instr.sureAddr, Sem.run_bind, Sem.run_pure, Result.andThen_ok] using hz
                          have hw : (Builtin.ssaWrapNilChk_ #[t] t #[.pointer (some ⟨b, off, none⟩), strVal "", strVal ((name.splitOn ".").getLastD name)]).run P w = .ok (.pointer (some ⟨b, off, none⟩)) w := by
                            rfl
                          simp only [hmf, Sem.run_bind, receiverAt, run_underlying' hu, Result.andThen_ok, Place.get, Sem.run_pure, hie, if_true, hw, asAddr, hz']
                    · cases hm
                  · rename_i f' e hmf hu
                    injection hm with hm; injection hm with h1 h2; subst h1; subst h2
                    exact ⟨u, by simp only [hmf, Sem.run_bind, receiverAt, run_underlying' hu, Result.andThen_ok, Place.get, Sem.run_pure], ru⟩
                  · rename_i f' e hmf hu
                    injection hm with hm; injection hm with h1 h2; subst h1; subst h2
                    exact ⟨u, by simp only [hmf, Sem.run_bind, receiverAt, run_underlying' hu, Result.andThen_ok, Place.get, Sem.run_pure], ru⟩
                  · rename_i f' e hmf hu
                    injection hm with hm; injection hm with h1 h2; subst h1; subst h2
                    exact ⟨u, by simp only [hmf, Sem.run_bind, receiverAt, run_underlying' hu, Result.andThen_ok, Place.get, Sem.run_pure], ru⟩
                  · cases hm
                · cases hm
              · cases hm
            · cases hm
          obtain ⟨xv, hmr, rx⟩ := hmeth
          refine fin f _ (#[xv] ++ args.map a.eval) h (args_append (xs := [x]) (us := #[xv]) ⟨rfl, fun i hi => by
            have : i = 0 := by simpa using hi
            subst this; exact rx⟩ hargs) ?_
          have hall : (#[a.eval rv] ++ args.map a.eval) = (a.eval rv :: (args.map a.eval).toList).toArray := by apply Array.ext'; simp
          have hex : (#[a.eval rv] ++ args.map a.eval).extract 1 (#[a.eval rv] ++ args.map a.eval).size = args.map a.eval := by
            rw [hall]
            apply Array.ext'
            simp [List.take_of_length_le]
          have hg0 : (#[a.eval rv] ++ args.map a.eval)[0]? = some (a.eval rv) := by rw [hall]; rfl
          have hinv : (invoke (.fn (.method name) #[]) (#[a.eval rv] ++ args.map a.eval)).run P w = (callMethod (a.eval rv) name (args.map a.eval)).run P w := by
            simp only [invoke, hg0, hex]
          have hexec : (execOp a.eval { dst := dst, op := .call { callee := .invoke rv name, args := args, argTypes := at_ }, type := ty, pos := pos, after := after, guard := guard }).run P w = (invoke (.fn (.method name) #[]) (#[a.eval rv] ++ args.map a.eval)).run P w := by
            simp only [execOp, resolve, Sem.run_bind, Sem.run_pure, Result.andThen_ok]
          rw [hexec, hinv, hrv]
          simp only [callMethod, Sem.run_bind, run_program, Result.andThen_ok, hmr]
        · cases h
    · cases h

/-- AN OPERATION: whatever it is, Go's step is the machine's. -/
theorem op_wp {nt : Nat} {G : Gh} {st st' : St} {a : Act} {call : CallA} {pre : Option (Nat × Bool)} {ops : List Oper} {o : Oper} {K : Act → World → Prop} {Q : Exit → Act → World → Prop} (hN : NoNum P) (hcall : CallSound P call)
    (hR : Rel P G nt st a w) (h : stepOp call P nt pre ops o st = some st') (hK : ∀ a' w' G', Rel P G' nt st' a' w' → Ext G w G' w' → K a' w') : o.wp P a w K Q := by
  unfold stepOp at h
  split at h
  case h_2 => cases h
  rename_i r hcoreP
  obtain ⟨d0, hd0⟩ := fresh_slot r.own
  obtain ⟨d, hd1, hd2⟩ : ∃ d, (∀ q, o.dst = some q → q = d) ∧ (o.dst = none → Loc.slot d ∉ r.own) := by
    cases hdst : o.dst with
    | none => exact ⟨d0, (fun q e => by cases e), fun _ => hd0⟩
    | some q => exact ⟨q, (fun q' e => by injection e with e; exact e.symm), fun e => by cases e⟩
  have hcases : (core call P ops o st.env st.H st.own = some r ∨ ∃ e, newSl P e o.op st.env st.H st.own = some r) ∨ ∃ id, newAt P o st.env st.H st.own id = some r := by
    unfold coreP at hcoreP
    split at hcoreP
    · split at hcoreP
      · exact .inl (.inr ⟨_, hcoreP⟩)
      · exact .inl (.inl hcoreP)
    · cases ha : allocOp o with
      | false =>
        rw [ha] at hcoreP
        simp only [cond_false] at hcoreP
        rename_i b lt
        cases hl : (lt && !(lateOk b o st.env)) with
        | true => rw [hl] at hcoreP; cases hcoreP
        | false => rw [hl] at hcoreP; exact .inl (.inl hcoreP)
      | true =>
        rw [ha] at hcoreP
        simp only [cond_true] at hcoreP
        split at hcoreP
        · split at hcoreP
          · exact .inr ⟨_, hcoreP⟩
          · cases hcoreP
        · cases hcoreP
  unfold Oper.wp
  rcases hcases with (hcore | ⟨e, hsl⟩) | ⟨id, hnew⟩
  case inl.inr =>
    obtain ⟨v, w', G', hrun, hdone⟩ := newSl_sound hR.ok hR.heap hR.own hR.env hsl d
    obtain ⟨h1, h2⟩ := put_sound hR h d hd1 hd2 hdone
    rw [hrun, Oper.upon_value]; exact hK _ _ _ h1 h2
  case inr =>
    obtain ⟨v, w', G', hrun, hdone⟩ := newAt_sound hR.ok hR.heap hR.own hR.env hnew d
    obtain ⟨h1, h2⟩ := put_sound hR h d hd1 hd2 hdone
    rw [hrun, Oper.upon_value]; exact hK _ _ _ h1 h2
  cases hc : isCallOp o.op with
  | false =>
    obtain ⟨v, w', G', hrun, hdone⟩ := core_sound hR.ok hR.heap hR.own hR.env hc hcore d
    obtain ⟨h1, h2⟩ := put_sound hR h d hd1 hd2 hdone
    rcases hrun with hrun | ⟨hrun, rfl⟩
    · rw [hrun, Oper.upon_value]; exact hK _ _ _ h1 h2
    · rw [hrun, Oper.upon_skip]; exact hK _ _ _ h1 h2
  | true =>
    obtain ⟨f, args, vals, out, hrun, har, hcl, hr⟩ := call_enters hN hR.ok hR.heap hR.env hc hcore
    rw [hrun, Oper.upon_enter]
    have hcs := hcall f args st.H _ out hcl G.callee w vals (callee_gok hR.ok) ⟨hR.heap.dom, hR.heap.blk, hR.heap.inj⟩ ⟨fun id off b k cs hm hf hk hb => callee_own (hR.own.cell id off b k cs (List.mem_filter.1 (mem_canon.1 hm)).1 hf hk hb), fun id off hm => hR.own.dom id off (List.mem_filter.1 (mem_canon.1 hm)).1⟩ har
    refine hcs.mono ?_
    rintro e w' ⟨v, G', rfl, hdone⟩
    have hd := back_done hR.ok hR.heap hR.own hdone d
    rw [← hr] at hd
    obtain ⟨h1, h2⟩ := put_sound hR h d hd1 hd2 hd
    exact hK _ _ _ h1 h2

end
end Go.Proofs.Ytnajopkaepjncaa.Am
