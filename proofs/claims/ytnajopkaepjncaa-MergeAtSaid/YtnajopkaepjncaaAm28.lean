/- Walks, fourth part: regions, statements, calls. -/
import Derived.Test.YtnajopkaepjncaaAm27
namespace Go.Proofs.Ytnajopkaepjncaa.Am
set_option linter.unusedVariables false
set_option linter.unusedSimpArgs false

section
variable {P : Program} {K : Know} {ops : List Oper} {nt : Nat}

theorem wNew_to {o : Oper} {s : S2} {id : Nat} {k : R2 → Prop} (h : wNew P o s id k) : ∃ r, k r ∧ r.slots = s.slots ∧ r.cells = s.cells ∧ ∀ own, newAt P o s.env s.H own id = some ⟨r.val, r.H, own, r.gives⟩ := by
  obtain ⟨hh, h⟩ := h
  split at h
  · rename_i e he
    split at h
    · rename_i z hz
      obtain ⟨H', rfl, hk⟩ := h
      exact ⟨_, hk, rfl, rfl, fun own => by unfold newAt; rw [hh, he]; simp only [hz]⟩
    · exact h.elim
  · rename_i e x he
    obtain ⟨v, hv, h0, H', rfl, hk⟩ := wO_to h
    exact ⟨_, hk, rfl, rfl, fun own => by unfold newAt; rw [hh, he]; simp only [hv, if_pos h0]⟩
  · exact h.elim

theorem wSl_to {e : TypeId} {op : Op} {s : S2} {k : R2 → Prop} (h : wSl P e op s k) : ∃ r, k r ∧ r.slots = s.slots ∧ r.cells = s.cells ∧ ∀ own, newSl P e op s.env s.H own = some ⟨r.val, r.H, own, r.gives⟩ := by
  unfold wSl at h
  split at h
  · rename_i t len cap
    obtain ⟨n, hn, h⟩ := wO_to h
    obtain ⟨c, hc, h⟩ := wO_to h
    split at h
    · rename_i e' hu
      split at h
      · rename_i n' c' i z h1 h2 h3 h4
        obtain ⟨rfl, q2, q3, q4, q5, q6, id, rfl, H', rfl, hk⟩ := h
        exact ⟨_, hk, rfl, rfl, fun own => by unfold newSl; simp only [hu, hn, hc, h1, h2, h3, h4]; rw [if_pos ⟨trivial, q2, q3, q4, q5, q6⟩]⟩
      · exact h.elim
    · exact h.elim
  · rename_i args argTypes
    split at h
    · rename_i x y ts tx ha ht
      obtain ⟨a, hav, h⟩ := wO_to h
      obtain ⟨b, hbv, h⟩ := wO_to h
      split at h
      · rename_i e' hu
        split at h
        · rename_i i z h3 h4
          obtain ⟨ys, hys, h⟩ := h
          split at h
          · obtain ⟨rfl, q2, q3, q4, q5, q6, id, rfl, H', rfl, hk⟩ := h
            exact ⟨_, hk, rfl, rfl, fun own => by unfold newSl; simp only [ha, ht, hu, hav, hbv, h3, h4, hys]; rw [if_pos ⟨trivial, q2, q3, q4, q5, q6⟩]⟩
          · rename_i e'' id off len
            obtain ⟨b', hb', rfl, q2, q3, q4, q5, q6, q7, q8, q9, q10, id', rfl, H', rfl, m, rfl, hk⟩ := h
            exact ⟨_, hk, rfl, rfl, fun own => by unfold newSl; simp only [ha, ht, hu, hav, hbv, h3, h4, hys, hb']; rw [if_pos ⟨trivial, q2, q3, q4, q5, q6, q7, q8, q9, q10⟩]⟩
          · exact h.elim
        · exact h.elim
      · exact h.elim
    · exact h.elim
  · exact h.elim
def CorePTo (P : Program) (K : Know) (pre : Option (Nat × Bool)) (ops : List Oper) (o : Oper) (s : S2) (r : R2) : Prop :=
  ∀ own, SetEq own (ownOf s.slots s.cells) → ∃ own', SetEq own' (ownOf r.slots r.cells) ∧ Ev fun n => coreP (callN P K n) P pre ops o s.env s.H own = some ⟨r.val, r.H, own', r.gives⟩

theorem wCoreP_to {pre : Option (Nat × Bool)} {o : Oper} {s : S2} {k : R2 → Prop} (h : wCoreP P K pre ops o s k) : ∃ r, k r ∧ CorePTo P K pre ops o s r := by
  unfold wCoreP at h
  split at h
  · split at h
    · rename_i e he
      obtain ⟨r, hk, h1, h2, h3⟩ := wSl_to h
      exact ⟨r, hk, fun own hown => ⟨own, by rw [h1, h2]; exact hown, Ev.of fun n => by simp only [coreP, he]; exact h3 own⟩⟩
    · rename_i he
      obtain ⟨r, hk, hc⟩ := wCore_to h
      refine ⟨r, hk, fun own hown => ?_⟩
      obtain ⟨own', h1, h2⟩ := hc own hown
      exact ⟨own', h1, h2.mono fun n hn => by simp only [coreP, he]; exact hn⟩
  · rename_i base lt
    split at h
    · rename_i ha
      split at h
      · rename_i d hd
        split at h
        · rename_i q hq
          obtain ⟨r, hk, h1, h2, h3⟩ := wNew_to h
          refine ⟨r, hk, fun own hown => ⟨own, by rw [h1, h2]; exact hown, Ev.of fun n => ?_⟩⟩
          simp only [coreP, ha, cond_true, hd, hq]
          exact h3 own
        · exact h.elim
      · exact h.elim
    · rename_i ha
      split at h
      · obtain ⟨hl, h⟩ := h
        obtain ⟨r, hk, hc⟩ := wCore_to h
        refine ⟨r, hk, fun own hown => ?_⟩
        obtain ⟨own', h1, h2⟩ := hc own hown
        refine ⟨own', h1, h2.mono fun n hn => ?_⟩
        simp only [coreP, ha, cond_false, hl, Bool.not_true, Bool.and_false]
        exact hn
      · obtain ⟨r, hk, hc⟩ := wCore_to h
        refine ⟨r, hk, fun own hown => ?_⟩
        obtain ⟨own', h1, h2⟩ := hc own hown
        refine ⟨own', h1, h2.mono fun n hn => ?_⟩
        simp only [coreP, ha, cond_false, Bool.false_and]
        exact hn

theorem wPut_to {env : List (Nat × AV)} {dst : Option Nat} {r : R2} {k : S2 → Prop} (h : wPut nt ops env dst r k) :
    ∃ s1, k s1 ∧ ∀ own' env0, SetEq own' (ownOf r.slots r.cells) → (∀ q, look env0 q = look env q) → ∃ st1, Res.put ⟨r.val, r.H, own', r.gives⟩ nt env0 dst = some st1 ∧ Sim s1 st1 := by
  unfold wPut at h
  split at h
  · rw [frcS_iff] at h
    exact ⟨_, h, fun own' env0 ho he => ⟨_, rfl, he, rfl, ho⟩⟩
  · rename_i d
    split at h
    case h_2 => exact h.elim
    rename_i hlt
    have hd : d < nt := Nat.blt_eq.mp hlt
    have key : ∀ v, r.val = v → k ⟨(d, v) :: env, r.H, putOwn2 r.slots r.gives d, r.cells⟩ → ∃ s1, k s1 ∧ ∀ own' env0, SetEq own' (ownOf r.slots r.cells) → (∀ q, look env0 q = look env q) → ∃ st1, Res.put ⟨r.val, r.H, own', r.gives⟩ nt env0 (some d) = some st1 ∧ Sim s1 st1 := by
      intro v hv hk
      subst hv
      refine ⟨_, hk, fun own' env0 ho he => ⟨_, put_iff.2 ⟨fun q e => by injection e with e; subst e; exact hd, rfl⟩, ?_, rfl, ?_⟩⟩
      · intro q
        simp only [putEnv, look_cons, he]
      · unfold putOwn putOwn2
        cases r.gives with
        | true => exact setEq_give ho d
        | false => exact setEq_drop ho d
    split at h
    · rename_i b hv _
      rw [frcS_iff] at h
      cases b with
      | true => exact key _ hv (h.1 rfl)
      | false => exact key _ hv (h.2 rfl)
    · rw [frcS_iff] at h; exact key _ rfl h

/-- A step, from all states that are as good. -/
def StepTo (P : Program) (K : Know) (nt : Nat) (pre : Option (Nat × Bool)) (ops : List Oper) (o : Oper) (s s1 : S2) : Prop :=
  ∀ st, Sim s st → ∃ st1, Sim s1 st1 ∧ Ev fun n => stepW (callN P K n) P nt pre ops o st = some st1
theorem wStep_to {pre : Option (Nat × Bool)} {o : Oper} {s : S2} {k : S2 → Prop} (h : wStep P K nt pre ops o s k) : ∃ s1, k s1 ∧ StepTo P K nt pre ops o s s1 := by
  unfold wStep at h
  split at h
  · rename_i hw
    obtain ⟨r, h, hc⟩ := wCoreP_to h
    obtain ⟨s1, hk, hp⟩ := wPut_to h
    refine ⟨s1, hk, fun st hs => ?_⟩
    obtain ⟨own', h1, h2⟩ := hc st.own hs.own
    obtain ⟨st1, h3, h4⟩ := hp own' st.env h1 hs.env
    refine ⟨st1, h4, h2.mono fun n hn => ?_⟩
    unfold stepW stepOp
    rw [wanted_env (env' := s.env) fun q _ => hs.env q, hw]
    simp only
    rw [coreP_env (env' := s.env) fun q _ => hs.env q, hs.H, hn]
    exact h3
  · rename_i hw
    obtain ⟨s1, hk, hp⟩ := wPut_to h
    refine ⟨s1, hk, fun st hs => ?_⟩
    obtain ⟨st1, h3, h4⟩ := hp st.own st.env hs.own hs.env
    refine ⟨st1, h4, Ev.of fun n => ?_⟩
    unfold stepW
    rw [wanted_env (env' := s.env) fun q _ => hs.env q, hw]
    simp only
    rw [hs.H]
    exact h3
  · exact h.elim
theorem wOps_to {pre : Option (Nat × Bool)} : ∀ {l : List Oper} {s : S2} {k : S2 → Prop}, wOps P K nt pre ops l s k →
    ∃ s1, k s1 ∧ ∀ st, Sim s st → ∃ st1, Sim s1 st1 ∧ Ev fun n => runOps (callN P K n) P nt pre ops l st = some st1
  | [], s, k, h => ⟨s, h, fun st hs => ⟨st, hs, Ev.of fun n => rfl⟩⟩
  | o :: l, s, k, h => by
    obtain ⟨s1, h1, h2⟩ := wStep_to h
    obtain ⟨s2, h3, h4⟩ := wOps_to h1
    refine ⟨s2, h3, fun st hs => ?_⟩
    obtain ⟨st1, h5, h6⟩ := h2 st hs
    obtain ⟨st2, h7, h8⟩ := h4 st1 h5
    exact ⟨st2, h7, (h6.both h8).mono fun n hn => by simp only [runOps, hn.1]; exact hn.2⟩
theorem wKeep_to {env : List (Nat × AV)} : ∀ {vars : List Nat} {k : List (Nat × AV) → Prop}, wKeep env vars k → k (vars.map fun s => (s, look env s))
  | [], _, h => h
  | v :: r, k, h => by
    unfold wKeep at h
    rw [frc_iff] at h
    exact wKeep_to (k := fun l => k ((v, look env v) :: l)) h
theorem look_map_eq {env env' : List (Nat × AV)} (h : ∀ k, look env k = look env' k) : ∀ vars : List Nat, (vars.map fun s => (s, look env s)) = vars.map fun s => (s, look env' s) := by
  intro vars
  apply List.map_congr_left
  intro s _
  rw [h]
theorem sim_keep {vars : List Nat} {s : S2} {st : St} (h : Sim s st) : Sim ⟨vars.map fun q => (q, look s.env q), s.H, s.slots.filter fun q => vars.any (Nat.beq q), s.cells⟩ (keep vars st) := by
  refine ⟨?_, h.H, ?_⟩
  · intro k
    show look (vars.map fun q => (q, look st.env q)) k = _
    rw [look_map_eq h.env]
  · intro l
    show l ∈ st.own.filter _ ↔ _
    rw [List.mem_filter, h.own]
    cases l with
    | slot q => rw [slot_ownOf, slot_ownOf, List.mem_filter]
    | cell i o => rw [cell_ownOf, cell_ownOf]; simp
theorem sim_holes {s : S2} {st : St} (h : Sim s st) (m : Nat) : Sim { s with H := s.H ++ List.replicate m none } { st with H := st.H ++ List.replicate m none } := ⟨h.env, by rw [h.H], h.own⟩

theorem W_mono {vars : Nat → List Nat} {c : Code} {s : S2} {Q Q' : Ex → S2 → Prop} (h : W P K vars nt c s Q) (k : ∀ e s, Q e s → Q' e s) : W P K vars nt c s Q' := by
  obtain ⟨e, s', h1, h2⟩ := h
  exact ⟨e, s', k e s' h1, h2⟩

theorem wC_to {vars : Nat → List Nat} : ∀ {c : Code} {s : S2} {Q : Ex → S2 → Prop}, wC P K vars nt c s Q → W P K vars nt c s Q := by
  intro c
  induction c with
  | skip => intro s Q h; exact ⟨_, _, h, fun st hs => ⟨st, hs, ⟨1, fun n hn => by obtain ⟨m, rfl⟩ : ∃ m, n = m + 1 := ⟨n - 1, by omega⟩; rfl⟩⟩⟩
  | region id ops draw =>
    intro s Q h
    simp only [wC] at h
    cases draw with
    | false =>
      simp only at h
      obtain ⟨s1, h1, h2⟩ := wOps_to h
      have h3 := wKeep_to h1
      rw [frcS_iff] at h3
      refine ⟨_, _, h3, fun st hs => ?_⟩
      obtain ⟨st1, h4, h5⟩ := h2 st hs
      exact ⟨_, sim_keep h4, h5.succ fun n hn => by simp only [exec, execWith, cond_false, hn]⟩
    | true =>
      simp only at h
      obtain ⟨b, rfl, H', rfl, h⟩ := h
      obtain ⟨s1, h1, h2⟩ := wOps_to h
      have h3 := wKeep_to h1
      rw [frcS_iff] at h3
      refine ⟨_, _, h3, fun st hs => ?_⟩
      obtain ⟨st1, h4, h5⟩ := h2 _ (sim_holes hs _)
      refine ⟨_, sim_keep h4, h5.succ fun n hn => ?_⟩
      simp only [exec, execWith, cond_true]
      rw [← hs.H] at hn
      rw [hn]
  | seq a b iha ihb =>
    intro s Q h
    simp only [wC] at h
    obtain ⟨e, s1, h1, h2⟩ := iha h
    cases e with
    | normal =>
      obtain ⟨e', s2, h3, h4⟩ := ihb h1
      refine ⟨e', s2, h3, fun st hs => ?_⟩
      obtain ⟨st1, h5, h6⟩ := h2 st hs
      obtain ⟨st2, h7, h8⟩ := h4 st1 h5
      exact ⟨st2, h7, (h6.both h8).succ fun n hn => by simp only [exec, execWith, hn.1]; exact hn.2⟩
    | exit i =>
      refine ⟨.exit i, s1, h1, fun st hs => ?_⟩
      obtain ⟨st1, h5, h6⟩ := h2 st hs
      exact ⟨st1, h5, h6.succ fun n hn => by simp only [exec, execWith, hn]⟩
    | ret =>
      refine ⟨.ret, s1, h1, fun st hs => ?_⟩
      obtain ⟨st1, h5, h6⟩ := h2 st hs
      exact ⟨st1, h5, h6.succ fun n hn => by simp only [exec, execWith, hn]⟩
  | cond c a b iha ihb =>
    intro s Q h
    simp only [wC] at h
    obtain ⟨v, hv, h⟩ := wO_to h
    split at h
    · rename_i t
      have hev : ∀ st, Sim s st → evalO st.env c = some (.bool t) := fun st hs => by
        rw [← hv]; exact evalO_env fun q _ => hs.env q
      cases t with
      | true =>
        obtain ⟨e, s1, h1, h2⟩ := iha (h.1 rfl)
        refine ⟨e, s1, h1, fun st hs => ?_⟩
        obtain ⟨st1, h5, h6⟩ := h2 st hs
        exact ⟨st1, h5, h6.succ fun n hn => by simp only [exec, execWith, hev st hs, cond_true]; exact hn⟩
      | false =>
        obtain ⟨e, s1, h1, h2⟩ := ihb (h.2 rfl)
        refine ⟨e, s1, h1, fun st hs => ?_⟩
        obtain ⟨st1, h5, h6⟩ := h2 st hs
        exact ⟨st1, h5, h6.succ fun n hn => by simp only [exec, execWith, hev st hs, cond_false]; exact hn⟩
    · exact h.elim
  | block id c ih =>
    intro s Q h
    simp only [wC] at h
    obtain ⟨e, s1, h1, h2⟩ := ih h
    cases e with
    | normal =>
      refine ⟨.normal, s1, h1, fun st hs => ?_⟩
      obtain ⟨st1, h5, h6⟩ := h2 st hs
      exact ⟨st1, h5, h6.succ fun n hn => by simp only [exec, execWith, hn]⟩
    | exit i =>
      simp only at h1
      cases hb : Nat.beq i id with
      | true =>
        rw [hb] at h1
        refine ⟨.normal, s1, h1, fun st hs => ?_⟩
        obtain ⟨st1, h5, h6⟩ := h2 st hs
        exact ⟨st1, h5, h6.succ fun n hn => by simp only [exec, execWith, hn, hb, cond_true]⟩
      | false =>
        rw [hb] at h1
        refine ⟨.exit i, s1, h1, fun st hs => ?_⟩
        obtain ⟨st1, h5, h6⟩ := h2 st hs
        exact ⟨st1, h5, h6.succ fun n hn => by simp only [exec, execWith, hn, hb, cond_false]⟩
    | ret =>
      refine ⟨.ret, s1, h1, fun st hs => ?_⟩
      obtain ⟨st1, h5, h6⟩ := h2 st hs
      exact ⟨st1, h5, h6.succ fun n hn => by simp only [exec, execWith, hn]⟩
  | loop c ih => intro s Q h; simp only [wC] at h; exact h
  | exit id => intro s Q h; exact ⟨_, _, h, fun st hs => ⟨st, hs, ⟨1, fun n hn => by obtain ⟨m, rfl⟩ : ∃ m, n = m + 1 := ⟨n - 1, by omega⟩; rfl⟩⟩⟩
  | label id => intro s Q h; exact ⟨_, _, h, fun st hs => ⟨st, hs, ⟨1, fun n hn => by obtain ⟨m, rfl⟩ : ∃ m, n = m + 1 := ⟨n - 1, by omega⟩; rfl⟩⟩⟩
  | ret => intro s Q h; exact ⟨_, _, h, fun st hs => ⟨st, hs, ⟨1, fun n hn => by obtain ⟨m, rfl⟩ : ∃ m, n = m + 1 := ⟨n - 1, by omega⟩; rfl⟩⟩⟩
  | _ => intro s Q h; exact False.elim h

/-- A round of a loop. -/
theorem W_round {vars : Nat → List Nat} {c : Code} {s : S2} {Q : Ex → S2 → Prop} (h : W P K vars nt c s fun e s1 => match e with
    | .normal => W P K vars nt (.loop c) s1 Q
    | .exit i => Q (.exit i) s1
    | .ret => Q .ret s1) : W P K vars nt (.loop c) s Q := by
  obtain ⟨e, s1, h1, h2⟩ := h
  cases e with
  | normal =>
    obtain ⟨e', s2, h3, h4⟩ := h1
    refine ⟨e', s2, h3, fun st hs => ?_⟩
    obtain ⟨st1, h5, h6⟩ := h2 st hs
    obtain ⟨st2, h7, h8⟩ := h4 st1 h5
    exact ⟨st2, h7, (h6.both h8).succ fun n hn => by
      have h9 := hn.1
      have h10 := hn.2
      simp only [exec, execWith, h9]; exact h10⟩
  | exit i =>
    refine ⟨.exit i, s1, h1, fun st hs => ?_⟩
    obtain ⟨st1, h5, h6⟩ := h2 st hs
    exact ⟨st1, h5, h6.succ fun n hn => by simp only [exec, execWith, hn]⟩
  | ret =>
    refine ⟨.ret, s1, h1, fun st hs => ?_⟩
    obtain ⟨st1, h5, h6⟩ := h2 st hs
    exact ⟨st1, h5, h6.succ fun n hn => by simp only [exec, execWith, hn]⟩
theorem wC_loop {vars : Nat → List Nat} {c : Code} {s : S2} {Q : Ex → S2 → Prop} (h : wC P K vars nt c s fun e s1 => match e with
    | .normal => W P K vars nt (.loop c) s1 Q
    | .exit i => Q (.exit i) s1
    | .ret => Q .ret s1) : W P K vars nt (.loop c) s Q := W_round (wC_to h)

/-- What a function's results come to. -/
def resA2 (P : Program) (s : S2) (rs : List ResultVar) : Option AV := resultsA P ⟨s.env, s.H, []⟩ rs
theorem resA_sim {s : S2} {st : St} (h : Sim s st) (rs : List ResultVar) : resultsA P st rs = resA2 P s rs := by
  have h1 : ∀ r, resultA P st r = resultA P ⟨s.env, s.H, []⟩ r := by
    intro r
    cases r with
    | tmp t => simp only [resultA, h.env]
    | cell a t => simp only [resultA, h.env, h.H]
  have h2 : resultA P st = resultA P ⟨s.env, s.H, []⟩ := funext h1
  unfold resA2 resultsA
  rw [h2]

/-- A call, by its body. -/
theorem calls_of {f : FuncId} {fn : Func} {c : Code} (hf : P.funcs[f]? = some fn) (hb : fn.body = some c) (hK : K.short f = none) {args : List AV} {H : List (Option Blk)} {cells : List (Nat × Nat)} {x : AV} {H' : List (Option Blk)} {cells' : List (Nat × Nat)}
    (hlen : Nat.ble args.length fn.ntmps = true) (h : wC P K (K.vars f) fn.ntmps c ⟨zipArgs 0 args, H, [], cells⟩ fun e s => (match e with | .exit _ => False | _ => True) ∧ resA2 P s fn.results.toList = some x ∧ s.H = H' ∧ s.cells = cells') :
    CallsA P K f args H cells x H' cells' := by
  obtain ⟨e, s, ⟨h1, h2, rfl, rfl⟩, h3⟩ := wC_to h
  intro own hown
  have hs : Sim ⟨zipArgs 0 args, H, [], cells⟩ ⟨zipArgs 0 args, H, own.filter Loc.isCell⟩ := by
    refine ⟨fun _ => rfl, rfl, fun l => ?_⟩
    show l ∈ own.filter _ ↔ _
    rw [List.mem_filter, hown]
    cases l with
    | slot q => rw [slot_ownOf]; simp
    | cell i o => simp [Loc.isCell]
  obtain ⟨st', h4, h5⟩ := h3 _ hs
  refine ⟨st'.own.filter Loc.isCell, ?_, h5.succ fun n hn => ?_⟩
  · intro l
    rw [List.mem_filter, h4.own]
    cases l with
    | slot q => rw [slot_ownOf, slot_ownOf]; simp [Loc.isCell]
    | cell i o => rw [cell_ownOf, cell_ownOf]; simp [Loc.isCell]
  · have hr : resultsA P st' fn.results.toList = some x := by rw [resA_sim h4]; exact h2
    have hle : args.length ≤ fn.ntmps := Nat.ble_eq.mp hlen
    simp only [callN, hK, bodyA, hf, hb, if_pos hle, hn]
    cases e with
    | normal => simp only [hr, Option.map_some, h4.H]
    | ret => simp only [hr, Option.map_some, h4.H]
    | exit i => exact h1.elim
/-! ### more fuel tells the same -/
def CallLe (c c' : CallA) : Prop := ∀ f args H own r, c f args H own = some r → c' f args H own = some r
theorem callA_mono {c c' : CallA} (h : CallLe c c') {H : List (Option Blk)} {own : List Loc} {f : FuncId} {args : List AV} {r : Res} (hr : callA c P H own f args = some r) : callA c' P H own f args = some r := by
  unfold callA at hr ⊢
  cases hb : hasBody P f with
  | false => rw [hb] at hr; cases hr
  | true =>
    rw [hb] at hr
    simp only [cond_true] at hr ⊢
    split at hr
    · rename_i x H' own' hc
      rw [h _ _ _ _ _ hc]; exact hr
    · cases hr
theorem core_mono {c c' : CallA} (h : CallLe c c') {o : Oper} {env : List (Nat × AV)} {H : List (Option Blk)} {own : List Loc} {r : Res} (hr : core c P ops o env H own = some r) : core c' P ops o env H own = some r := by
  obtain ⟨dst, op, ty, pos, after, guard⟩ := o
  cases op
  case call cl =>
    obtain ⟨callee, args, at_⟩ := cl
    cases callee with
    | value f =>
      simp only [core] at hr ⊢
      split at hr
      · exact callA_mono h hr
      · cases hr
    | invoke rv name =>
      simp only [core] at hr ⊢
      split at hr
      · split at hr
        · exact callA_mono h hr
        · cases hr
      · cases hr
    | builtin b =>
      cases b
      case append => exact hr
      all_goals exact hr
  case move x => cases x <;> exact hr
  all_goals exact hr
theorem stepW_mono {c c' : CallA} (h : CallLe c c') {pre : Option (Nat × Bool)} {o : Oper} {st st' : St} (hr : stepW c P nt pre ops o st = some st') : stepW c' P nt pre ops o st = some st' := by
  have hP : ∀ r, coreP c P pre ops o st.env st.H st.own = some r → coreP c' P pre ops o st.env st.H st.own = some r := by
    intro r hr
    rcases pre with _ | ⟨base, lt⟩
    · simp only [coreP] at hr ⊢
      split at hr
      · exact hr
      · exact core_mono h hr
    · simp only [coreP] at hr ⊢
      cases ha : allocOp o with
      | true => rw [ha] at hr; exact hr
      | false =>
        rw [ha] at hr
        simp only [cond_false] at hr ⊢
        cases hl : (lt && !(lateOk base o st.env)) with
        | true => rw [hl] at hr; cases hr
        | false => rw [hl] at hr; exact core_mono h hr
  unfold stepW at hr ⊢
  split at hr
  · unfold stepOp at hr ⊢
    split at hr
    · rename_i r hc
      rw [hP r hc]; exact hr
    · cases hr
  · exact hr
  · cases hr
theorem runOps_mono {c c' : CallA} (h : CallLe c c') {pre : Option (Nat × Bool)} : ∀ {l : List Oper} {st st' : St}, runOps c P nt pre ops l st = some st' → runOps c' P nt pre ops l st = some st'
  | [], _, _, hr => hr
  | o :: l, st, st', hr => by
    simp only [runOps] at hr ⊢
    split at hr
    · rename_i s1 h1
      rw [stepW_mono h h1]; exact runOps_mono h hr
    · cases hr
theorem exec_succ (n : Nat) (vars : Nat → List Nat) (nt : Nat) (c : Code) (st : St) : exec P K (n + 1) vars nt c st = execWith (callN P K n) P vars nt (exec P K n vars nt) c st := rfl
theorem fuel_mono : ∀ n, CallLe (callN P K n) (callN P K (n + 1)) ∧ ∀ vars nt c st r, exec P K n vars nt c st = some r → exec P K (n + 1) vars nt c st = some r := by
  intro n
  induction n with
  | zero => exact ⟨fun f args H own r h => by simp [callN] at h, fun vars nt c st r h => by simp [exec] at h⟩
  | succ n ih =>
    obtain ⟨ih1, ih2⟩ := ih
    refine ⟨?_, ?_⟩
    · intro f args H own r h
      simp only [callN] at h ⊢
      split at h
      · exact h
      · unfold bodyA at h ⊢
        split at h
        · rename_i fn hfn
          split at h
          · rename_i c hc
            split at h
            · rename_i hle
              simp only [hfn, hc, if_pos hle]
              split at h
              · rename_i hst; rw [ih2 _ _ _ _ _ hst]; exact h
              · rename_i hst; rw [ih2 _ _ _ _ _ hst]; exact h
              · cases h
            · cases h
          · cases h
        · cases h
    · intro vars nt c st r h
      cases c with
      | skip => exact h
      | region id ops draw =>
        rw [exec_succ] at h ⊢
        simp only [execWith] at h ⊢
        split at h
        · rename_i st' hst
          have : (cond draw (runOps (callN P K (n + 1)) P nt (some (st.H.length, late ops.toList)) ops.toList ops.toList { st with H := st.H ++ List.replicate (allocs ops.toList) none }) (runOps (callN P K (n + 1)) P nt none ops.toList ops.toList st)) = some st' := by
            cases draw with
            | true => exact runOps_mono ih1 hst
            | false => exact runOps_mono ih1 hst
          rw [this]; exact h
        · cases h
      | seq a b =>
        rw [exec_succ] at h ⊢
        simp only [execWith] at h ⊢
        split at h
        · rename_i st' hst; rw [ih2 _ _ _ _ _ hst]; exact ih2 _ _ _ _ _ h
        · rename_i hne
          have h' := ih2 _ _ _ _ _ h
          rw [h']
          obtain ⟨e, st'⟩ := r
          cases e with
          | normal => exact absurd h (hne st')
          | exit i => rfl
          | ret => rfl
      | cond c a b =>
        rw [exec_succ] at h ⊢
        simp only [execWith] at h ⊢
        split at h
        · rename_i t ht
          cases t with
          | true => exact ih2 _ _ _ _ _ h
          | false => exact ih2 _ _ _ _ _ h
        · cases h
      | block id c =>
        rw [exec_succ] at h ⊢
        simp only [execWith] at h ⊢
        split at h
        · rename_i i st' hst; rw [ih2 _ _ _ _ _ hst]; exact h
        · rename_i hne
          have h' := ih2 _ _ _ _ _ h
          rw [h']
          obtain ⟨e, st'⟩ := r
          cases e with
          | normal => rfl
          | exit i => exact absurd h (hne i st')
          | ret => rfl
      | loop c =>
        rw [exec_succ] at h ⊢
        simp only [execWith] at h ⊢
        split at h
        · rename_i st' hst; rw [ih2 _ _ _ _ _ hst]; exact ih2 _ _ _ _ _ h
        · rename_i hne
          have h' := ih2 _ _ _ _ _ h
          rw [h']
          obtain ⟨e, st'⟩ := r
          cases e with
          | normal => exact absurd h (hne st')
          | exit i => rfl
          | ret => rfl
      | exit id => exact h
      | label id => exact h
      | ret => exact h
      | _ => exact absurd h (by rw [exec_succ]; simp [execWith])
theorem callN_mono {n m : Nat} (h : n ≤ m) {f : FuncId} {args : List AV} {H : List (Option Blk)} {own : List Loc} {r : Out} (hr : callN P K n f args H own = some r) : callN P K m f args H own = some r := by
  induction h with
  | refl => exact hr
  | step _ ih => exact (fuel_mono _).1 _ _ _ _ _ ih
theorem setEq_nil {own : List Loc} (h : SetEq own (ownOf [] [])) : own = [] := by
  cases own with
  | nil => rfl
  | cons l r => have := (h l).1 (by simp); cases this
/-- A call that is run to its end. -/
theorem calls_run {f : FuncId} {args : List AV} {H H' : List (Option Blk)} {x : AV} (n : Nat) (h : callN P K n f args H [] = some (x, H', [])) : CallsA P K f args H [] x H' [] := by
  intro own hown
  rw [setEq_nil hown]
  exact ⟨[], fun _ => Iff.rfl, ⟨n, fun m hm => callN_mono hm h⟩⟩

end
end Go.Proofs.Ytnajopkaepjncaa.Am
