/- The abstract machine is right, fifteenth part: statements, functions, and all of it. -/
import Derived.Test.YtklecelgejlihaaGreatDoorM3
import Derived.TacticsIn
import Derived.OrdersIn
import Derived.RangeFuncRecord
import Derived.RangeFuncOwn
import Derived.Orders
import Derived.Test.YtklecelgejlihaaGreatDoorProg
import Derived.Test.YtklecelgejlihaaGreatDoorChecked
/- The abstract machine is right, fifteenth part: statements, functions, and all of it. -/
namespace Go.Proofs.YtklecelgejlihaaGreatDoor.Am
set_option linter.unusedVariables false
set_option linter.unusedSimpArgs false
open Go.RowKit

section
variable {P : Program} {B : Nat}

/-- All that runs is let in; in a round of a loop over a function, or in none. -/
def fw (ro : Option Nat) : Fence := { Fence.wide with round := ro }
theorem fw_round (ro : Option Nat) (l : Nat) : (fw ro).inRound l = fw (some l) := rfl
theorem calls_fw {ro : Option Nat} {n : Nat} {f : FuncId} {args : Array Value} {w : World} {R : Ending → World → Prop} (h : Calls P f args w R) : CallsIn (fw ro) n P f args w R :=
  (callsIn_wide (n := n)).2 h
theorem of_calls_fw {ro : Option Nat} {n : Nat} {f : FuncId} {args : Array Value} {w : World} {R : Ending → World → Prop} (h : CallsIn (fw ro) n P f args w R) : Calls P f args w R :=
  (callsIn_wide (n := n)).1 h
theorem rows_fw {ro : Option Nat} {n : Nat} {row : String} {args : Array Value} {w : World} {R : Value → World → Prop} (h : Rows P row args w R) : RowsIn (fw ro) n P row args w R :=
  fun c cs _ => let ⟨v, w', r, s⟩ := h c cs; ⟨v, w', r, stepsIn_wide.2 s⟩
theorem wpIn_of_wp {ro : Option Nat} {n : Nat} {o : Oper} {a : Act} {w : World} {K : Act → World → Prop} {Q : Exit → Act → World → Prop} (hd : ∀ c, o.op ≠ .defer c) (h : o.wp P a w K Q) : o.wpIn (fw ro) n P a w K Q := by
  refine ⟨fun _ _ => trivial, ?_⟩
  rw [Oper.semAt_eq _ _ _ hd]
  unfold Oper.wp at h
  generalize (execOp a.eval o).run P w = r at h ⊢
  cases r with
  | ok x w' =>
    cases x <;> simp only [Oper.upon, Oper.uponIn] at h ⊢
    case value => exact h
    case skip => exact h
    case defer => exact h
    case enter => exact ⟨(fun e => by cases e), calls_fw h⟩
    case row => exact ⟨(fun e => by cases e), rows_fw h⟩
    all_goals exact h.elim
  | halt x w' =>
    cases x <;> simp only [Oper.upon, Oper.uponIn] at h ⊢
    all_goals exact h

def DrawThm (P : Program) : Prop := ∀ (c : Oper → CallA), (∀ o, CallSound P (c o)) → ∀ (ro : Option Nat) (m B nt id : Nat) (ops : Array Oper) (st st' : St) (G : Gh) (a : Act) (w : World), regionOk ops.toList = true → (mixed ops.toList = true → (∀ o, mixAt ops.toList o = true → FullLock (c o) ∧ CallFill (c o)) ∧ ∀ o, CallLen (c o)) → ∀ lt : Option WS, lt.isSome = late ops.toList → runOps c P nt (some (st.H.length, lt)) ops.toList ops.toList { st with H := st.H ++ List.replicate (allocs ops.toList) none } = some st' → Rel P B G nt st a w →
  ∀ Q, (∀ a' w' G', Rel P B G' nt st' a' w' → Ext G w G' w' → Q Exit.normal a' w') → (Code.region id ops true).wpIn (fw ro) m P Q a w

structure POk (P : Program) : Prop where
  num : NoNum P
  code : ∀ (f : Nat) (fn : Func) (c : Code), P.funcs[f]? = some fn → fn.body = some c → codeOk c = true
  draw : DrawThm P

/-! ### a loop's record turns -/
theorem rec_inv {H : List (Option Blk)} {id s kd x : Nat} {y : AV} (h : getRec H id = some (s, kd, x, y)) : ∃ k, H[id]? = some (some k) ∧ Nat.beq k.e LOOP = true ∧ ∃ a b c s' kd' x', k.cs = [.int a s', .int b kd', .int c x', y] ∧ s = Int.toNat s' ∧ kd = Int.toNat kd' ∧ x = Int.toNat x' := by
  unfold getRec at h
  split at h
  · rename_i e a s' b kd' c x' y' hk
    cases he : Nat.beq e LOOP with
    | false => rw [he] at h; cases h
    | true =>
      rw [he] at h
      simp only [cond_true, Option.some.injEq, Prod.mk.injEq] at h
      obtain ⟨h1, h2, h3, h4⟩ := h
      exact ⟨_, hk, he, a, b, c, s', kd', x', by rw [h4], h1.symm, h2.symm, h3.symm⟩
  · cases h

theorem loop_step {G : Gh} {w : World} {H : List (Option Blk)} (g : GOk G w) (r : HeapRel P G H w) {id l s kd x : Nat} {y : AV} (hf : G.f id = some l) (h : getRec H id = some (s, kd, x, y)) :
    ∃ (L : Loop), w.heap[l]? = some (.loop L) ∧ L.state = stateOf s ∧ L.pending = pendOf kd x ∧
      (∃ vars env, y = .rcd vars L.tmps.size env L.params.toList L.assign L.body ∧ (codeOk L.assign && noRange L.assign && (codeOk L.body && noRange L.body)) = true ∧ ∀ q, Rep P (G.mem w) (look env q) (L.tmps.getD q undef)) ∧
      ∀ s' kd' x', Ext G w G (w.putObj l (.loop { L with state := stateOf s', pending := pendOf kd' x' })) ∧ GOk G (w.putObj l (.loop { L with state := stateOf s', pending := pendOf kd' x' })) ∧
        HeapRel P G (H.set id (recA s' kd' x' y)) (w.putObj l (.loop { L with state := stateOf s', pending := pendOf kd' x' })) ∧
        (∀ lc z u, OwnAt P G w lc z u → OwnAt P G (w.putObj l (.loop { L with state := stateOf s', pending := pendOf kd' x' })) lc z u) ∧
        (∀ own, CellOwns P G H own w → CellOwns P G (H.set id (recA s' kd' x' y)) own (w.putObj l (.loop { L with state := stateOf s', pending := pendOf kd' x' }))) := by
  obtain ⟨k, hk, hke, a, b, c, s0, kd0, x0, hcs, hs0, hkd0, hx0⟩ := rec_inv h
  have hla : LoopAt1 P (G.mem w) w l k := by
    rcases (r.blk id l k hf hk).2 hke with h | ⟨m, es, cl, _, h2, _⟩
    · exact h
    · rw [h2] at hcs
      unfold mapBlk at hcs
      injection hcs with h3 _
      cases h3
  obtain ⟨L, st, kind, xx, vars, env, h1, h2, h3, h4, h5, h6⟩ := hla
  unfold recA at h2
  injection h2 with h2
  have hcs2 := congrArg Blk.cs h2
  rw [hcs] at hcs2
  simp only [List.cons.injEq, AV.int.injEq, and_true] at hcs2
  obtain ⟨⟨_, q1⟩, ⟨_, q2⟩, ⟨_, q3⟩, q4⟩ := hcs2
  have e1 : s = st := by rw [hs0, q1]; exact Int.toNat_natCast _
  have e2 : kd = kind := by rw [hkd0, q2]; exact Int.toNat_natCast _
  have e3 : x = xx := by rw [hx0, q3]; exact Int.toNat_natCast _
  subst e1 e2 e3
  have hlt : l < w.heap.size := (Array.getElem?_eq_some_iff.1 h1).1
  have hidlt : id < H.length := (List.getElem?_eq_some_iff.1 hk).1
  have hkne : k.cs ≠ [] := by rw [hcs]; simp
  refine ⟨L, h1, h3, h4, ⟨vars, env, q4, h5, h6⟩, fun s' kd' x' => ?_⟩
  generalize hL' : ({ L with state := stateOf s', pending := pendOf kd' x' } : Loop) = L'
  have hnew : (w.putObj l (.loop L')).heap[l]? = some (.loop L') := World.putObj_heap_same hlt
  have hoth : ∀ q, q ≠ l → (w.putObj l (.loop L')).heap[q]? = w.heap[q]? := fun q hq => World.putObj_heap_other hq
  have hext : Ext G w G (w.putObj l (.loop L')) := by
    refine ⟨rfl, rfl, rfl, by rw [World.putObj_size]; exact Nat.le_refl _, ?_, fun _ _ h => h, fun _ => Nat.le_refl _, ?_⟩
    · intro b o v hv
      have hb : b ≠ l := by
        rintro rfl
        unfold pmOf at hv
        split at hv
        · simp [World.cell?, h1] at hv
        · cases hv
      unfold pmOf at hv ⊢
      split at hv
      · rename_i hlt'; rw [if_pos hlt', World.cell?_of_block (hoth b hb)]; exact hv
      · cases hv
    · intro b hb hn
      have hbl : b ≠ l := by rintro rfl; exact hn (.inl ⟨id, hf⟩)
      exact ⟨hoth b hbl, rfl, hn⟩
  have hgok : GOk G (w.putObj l (.loop L')) := ⟨fun i b h => by rw [World.putObj_size]; exact g.fin i b h, fun b hb => g.new b (by rw [World.putObj_size] at hb; exact hb), hext.held g.held⟩
  have hset : ∀ j q, (H.set id (recA s' kd' x' y))[j]? = some (some q) → (j = id ∧ some q = recA s' kd' x' y) ∨ (j ≠ id ∧ H[j]? = some (some q)) := by
    intro j q hj
    by_cases hji : j = id
    · subst hji
      rw [List.getElem?_set_self hidlt] at hj
      injection hj with hj
      exact .inl ⟨rfl, hj.symm⟩
    · rw [List.getElem?_set_ne (fun e => hji e.symm)] at hj
      exact .inr ⟨hji, hj⟩
  have hone : ∀ j q, G.f j = some l → j ≠ id → H[j]? = some (some q) → False := by
    intro j q hj hne hq
    by_cases hqn : q.cs = []
    · obtain ⟨cs, hc, _⟩ := (r.blk j l q hj hq).1 ((r.blk j l q hj hq).cs_nil hqn)
      rw [h1] at hc; cases hc
    · exact hne (r.inj j id l q k hj hf hq hk hqn hkne)
  have hrne : ∀ q : Blk, some q = recA s' kd' x' y → q.cs ≠ [] := by
    intro q hq; unfold recA at hq; injection hq with hq; rw [hq]; simp
  have hheap : HeapRel P G (H.set id (recA s' kd' x' y)) (w.putObj l (.loop L')) := by
    refine ⟨fun i b hi => by unfold recA; exact (r.dom i b hi).set _ _, fun i b q hi hq => ?_, fun i j b q1 q2 hi hj hq1 hq2 n1 n2 => ?_, fun i b q hi hq hn => ?_⟩
    · rcases hset i q hq with ⟨rfl, e⟩ | ⟨hne, hq⟩
      · rw [hf] at hi; injection hi with hi; subst hi
        have hqe : Nat.beq q.e LOOP = true := by unfold recA at e; injection e with e; rw [e]; exact Nat.beq_refl _
        refine ⟨fun e' => (by rw [hqe] at e'; cases e'), fun _ => .inl ⟨L', s', kd', x', vars, env, hnew, ?_, ?_, ?_, ?_, fun s => ?_⟩⟩
        · rw [e, q4, ← hL']
        · rw [← hL']
        · rw [← hL']
        · rw [← hL']; exact h5
        · have ht : L'.tmps = L.tmps := by rw [← hL']
          rw [ht]; exact (h6 s).mono hext.mem
      · have hbl : b ≠ l := by rintro rfl; exact hone i q hi hne hq
        exact (r.blk i b q hi hq).to (hoth b hbl) rfl hext.mem
    · rcases hset i q1 hq1 with ⟨b1, _⟩ | ⟨b1, hq1⟩ <;> rcases hset j q2 hq2 with ⟨b2, _⟩ | ⟨b2, hq2⟩
      · rw [b1, b2]
      · rw [b1, hf] at hi; injection hi with hi; subst hi; exact (hone j q2 hj b2 hq2).elim
      · rw [b2, hf] at hj; injection hj with hj; subst hj; exact (hone i q1 hi b1 hq1).elim
      · exact r.inj i j b q1 q2 hi hj hq1 hq2 n1 n2
    · rcases hset i q hq with ⟨rfl, _⟩ | ⟨hne, hq⟩
      · rw [hf] at hi; injection hi with hi; subst hi; exact r.lim _ l k hf hk hkne
      · exact r.lim i b q hi hq hn
  have hown : ∀ lc z u, OwnAt P G w lc z u → OwnAt P G (w.putObj l (.loop L')) lc z u := by
    intro lc z u ro e xs hx
    obtain ⟨sz, cells, a1, a2, a3, a4⟩ := ro e xs hx
    refine ⟨sz, cells, a1, a2, a3.kept (grownBy_putObj' w l _) (row := some l) ?_, a4⟩
    cases hu : u.ownBlock with
    | none => exact .inl rfl
    | some q =>
      refine .inr ?_
      intro e
      injection e with e
      subst e
      have := (a4 q hu).1
      rw [(g.fin id q hf).2] at this
      cases this
  refine ⟨hext, hgok, hheap, hown, fun own ho => ⟨fun i off b q cs hm hi hq hb => ?_, fun i off hm => by unfold recA; exact (ho.dom i off hm).set _ _⟩⟩
  rcases hset i q hq with ⟨rfl, _⟩ | ⟨hne, hq⟩
  · rw [hf] at hi; injection hi with hi; subst hi; rw [hnew] at hb; cases hb
  · have hbl : b ≠ l := by rintro rfl; rw [hnew] at hb; cases hb
    rw [hoth b hbl] at hb
    exact hown _ _ _ (ho.cell i off b q cs hm hi hq hb)

/-! ### what a round is to do -/
def YieldSound (P : Program) (yl : Nat → List AV → List (Option Blk) → List Loc → Option Out) : Prop := ∀ id args H own out, yl id args H own = some out →
  ∀ (G : Gh) (w : World) (vals : Array Value) (l : Nat), G.f id = some l → GOk G w → HeapRel P G H w → CellOwns P G H own w → ArgsRep P (G.mem w) args vals → ∀ (ro : Option Nat) (m : Nat),
    ∃ L, w.heap[l]? = some (.loop L) ∧ vals.size = L.params.size ∧
      RoundIn (fw ro) m P l L.fn ((L.params.zip vals).foldl (fun tmps (t, a) => tmps.setIfInBounds t a) L.tmps) L.assign L.body w fun e w' => ∃ v G', e = .returned v ∧ CallDone P G w out v w' G'

theorem not_defer {call : CallA} {nt : Nat} {pre : Option (Nat × Option WS)} {ops : List Oper} {o : Oper} {st st' : St} (h : stepOp call P nt pre ops o st = some st') : ∀ c, o.op ≠ .defer c := by
  intro c hc
  obtain ⟨dst, op, ty, pos, after, guard⟩ := o
  simp only at hc
  subst hc
  have e1 : slElem P { dst := dst, op := .defer c, type := ty, pos := pos, after := after, guard := guard } = none := rfl
  unfold stepOp coreP at h
  cases pre with
  | none =>
    simp only [coreS, e1, isMapO, isMapW, isMapR, Bool.or_false, cond_false, core, plainRes, pureOp, Option.map_none] at h
    cases h
  | some p =>
    obtain ⟨b, lt⟩ := p
    have e2 : allocOp { dst := dst, op := .defer c, type := ty, pos := pos, after := after, guard := guard } = false := rfl
    simp only [e2, cond_false, coreS, e1, isMapO, isMapW, isMapR, Bool.or_false, core, plainRes, pureOp, Option.map_none] at h
    cases (lateNo b lt ops { dst := dst, op := .defer c, type := ty, pos := pos, after := after, guard := guard } st.env) <;> simp at h

theorem yield_wp {nt : Nat} {G : Gh} {w : World} {st st' : St} {a : Act} {yl : Nat → List AV → List (Option Blk) → List Loc → Option Out} {o : Oper} {K : Act → World → Prop} {Q : Exit → Act → World → Prop} {ro : Option Nat} {m : Nat} (hyl : YieldSound P yl)
    (hR : Rel P B G nt st a w) {id : Nat} {vs : List AV} (hy : yieldOp st.env o = some (id, vs)) {out : Out} (h : yl id vs st.H (canon (st.own.filter Loc.isCell)) = some out)
    (hp : Res.put ⟨out.1, out.2.1, st.own.filter (fun l => !l.isCell) ++ out.2.2.filter Loc.isCell, false⟩ nt st.env o.dst = some st')
    (hK : ∀ a' w' G', Rel P B G' nt st' a' w' → Ext G w G' w' → K a' w') : o.wpIn (fw ro) m P a w K Q := by
  obtain ⟨dst, op, ty, pos, after, guard⟩ := o
  unfold yieldOp at hy
  simp only at hy hp
  split at hy
  case h_2 => cases hy
  rename_i f args at_
  split at hy
  case h_2 => cases hy
  rename_i id' hf
  cases hvs : evalL st.env args.toList with
  | none => rw [hvs] at hy; cases hy
  | some vs' =>
    rw [hvs] at hy
    simp only [Option.map_some, Option.some.injEq, Prod.mk.injEq] at hy
    obtain ⟨e1, e2⟩ := hy
    subst e1 e2
    have rf := hR.env.opd hf
    generalize hfv : a.eval f = fv at rf
    cases rf with
    | yld _ l hl =>
      have hl : G.f id' = some l := hl
      have har := evalL_args hR.env hvs
      obtain ⟨L, hL, hsz, hround⟩ := hyl id' vs' st.H _ out h G.callee w (args.map a.eval) l hl (callee_gok hR.ok) ⟨hR.heap.dom, hR.heap.blk, hR.heap.inj, hR.heap.lim⟩
        ⟨fun id off b k cs hm hf hk hb => callee_own (hR.own.cell id off b k cs (List.mem_filter.1 (mem_canon.1 hm)).1 hf hk hb), fun id off hm => hR.own.dom id off (List.mem_filter.1 (mem_canon.1 hm)).1⟩ har ro (m - 1)
      refine ⟨fun _ _ => trivial, ?_⟩
      rw [Oper.semAt_eq _ _ _ (by intro c e; cases e)]
      have hrun : (execOp a.eval { dst := dst, op := .call { callee := .value f, args := args, argTypes := at_ }, type := ty, pos := pos, after := after, guard := guard }).run P w = .ok (.round l L.fn ((L.params.zip (args.map a.eval)).foldl (fun tmps (t, a) => tmps.setIfInBounds t a) L.tmps) L.assign L.body) w := by
        simp only [execOp, resolve, hfv, Deferred.ofValue, Sem.run_bind, Sem.run_pure, Result.andThen_ok, invoke, Array.empty_append]
        exact run_yield hL hsz
      rw [hrun, Oper.uponIn_round]
      refine ⟨(fun e => by cases e), hround.mono ?_⟩
      rintro e w' ⟨v, G', rfl, hdone⟩
      obtain ⟨d0, hd0⟩ := fresh_slot (st.own.filter (fun l => !l.isCell) ++ out.2.2.filter Loc.isCell)
      obtain ⟨d, hd1, hd2⟩ : ∃ d, (∀ q, dst = some q → q = d) ∧ (dst = none → Loc.slot d ∉ st.own.filter (fun l => !l.isCell) ++ out.2.2.filter Loc.isCell) := by
        cases hdst : dst with
        | none => exact ⟨d0, (fun q e => by cases e), fun _ => hd0⟩
        | some q => exact ⟨q, (fun q' e => by injection e with e; exact e.symm), fun e => by cases e⟩
      have hd := back_done hR.ok hR.heap hR.own hdone d
      obtain ⟨h1, h2⟩ := put_sound hR hp d hd1 hd2 hd
      exact hK _ _ _ h1 h2

theorem yielded_rel {w : World} {M : Mem} {ops : Array Oper} {env : List (Nat × AV)} {a : Act} (he : EnvRel P M env a) {o : Oper} {b : Bool} (h : wantedA ops.toList env o = some b) : Region.wanted o (yielded ops a.tmps) = b := by
  unfold wantedA at h
  unfold Region.wanted
  split at h
  · rename_i hg; injection h with h; subst h; rw [hg]
  · rename_i j want hg
    rw [hg]
    simp only
    split at h
    · rename_i d op ty pos after guard hj
      have hj' : ops[j]? = some { dst := some d, op := op, type := ty, pos := pos, after := after, guard := guard } := by rw [← hj, Array.getElem?_toList]
      have hr := he d
      unfold yielded
      rw [hj']
      simp only [Option.bind_some]
      split at h
      · rename_i q hq
        injection h with h; subst h
        rw [hq] at hr
        have := bool_inv hr
        rw [Array.getD_eq_getD_getElem?] at this
        cases ht : a.tmps[d]? with
        | none => rw [ht] at this; cases this
        | some v =>
          rw [ht] at this
          have hv : v = .bool q := this
          subst hv
          cases q <;> cases want <;> rfl
      · rename_i hq
        injection h with h; subst h
        rw [hq] at hr
        rw [Array.getD_eq_getD_getElem?] at hr
        cases ht : a.tmps[d]? with
        | none => cases want <;> rfl
        | some v =>
          rw [ht] at hr
          have hr' : Rep P M (.tup []) v := hr
          cases hr'
          cases want <;> rfl
      · cases h
    · cases h

theorem unwanted_put {nt : Nat} {w : World} {st st' : St} {a : Act} {G : Gh} {dst : Option Nat} (hR : Rel P B G nt st a w) (hp : Res.put ⟨.tup [], st.H, st.own, false⟩ nt st.env dst = some st') : Rel P B G nt st' (a.put dst undef) w := by
  obtain ⟨d0, hd0⟩ := fresh_slot st.own
  obtain ⟨d, hd1, hd2⟩ : ∃ d, (∀ q, dst = some q → q = d) ∧ (dst = none → Loc.slot d ∉ st.own) := by
    cases hdst : dst with
    | none => exact ⟨d0, (fun q e => by cases e), fun _ => hd0⟩
    | some q => exact ⟨q, (fun q' e => by injection e with e; exact e.symm), fun e => by cases e⟩
  exact (put_sound hR hp d hd1 hd2 (done_same hR.ok hR.heap hR.own d (.tup [] #[] rfl (fun i hi => by simp at hi)))).1

/-- A region in the order of its text. -/
theorem list_sound {call : CallA} {yl : Nat → List AV → List (Option Blk) → List Loc → Option Out} {nt : Nat} {ops : Array Oper} {ro : Option Nat} {m : Nat} (hN : NoNum P) (hcall : CallSound P call) (hyl : YieldSound P yl) : ∀ (l : List Oper) (st st' : St) (G : Gh) (a : Act) (w : World), runOpsZ call yl P nt ops.toList l st = some st' → Rel P B G nt st a w →
    ∀ Q, (∀ a' w' G', Rel P B G' nt st' a' w' → Ext G w G' w' → Q Exit.normal a' w') → wpListIn (fw ro) m P ops Q l a w := by
  intro l
  induction l with
  | nil =>
    intro st st' G a w h hR Q hQ
    simp only [runOpsZ, Option.some.injEq] at h; subst h
    exact hQ a w G hR (Ext.refl _ _)
  | cons o r ih =>
    intro st st' G a w h hR Q hQ
    simp only [runOpsZ] at h
    split at h
    case h_2 => cases h
    rename_i st1 hst1
    unfold stepZ at hst1
    refine wpListIn_step fun K hK => ?_
    split at hst1
    · rename_i hw
      rw [yielded_rel (w := w) hR.env hw, if_pos rfl]
      have next : ∀ a' w' G', Rel P B G' nt st1 a' w' → Ext G w G' w' → K a' w' := fun a' w' G' hR' hE' => hK _ _ (ih st1 st' G' a' w' h hR' Q fun a2 w2 G2 h2 e2 => hQ a2 w2 G2 h2 (hE'.trans e2))
      split at hst1
      · rename_i id vs hy
        split at hst1
        · rename_i x H' own' hyo
          exact yield_wp hyl hR hy hyo hst1 next
        · cases hst1
      · exact wpIn_of_wp (not_defer hst1) (op_wp hN hcall hR hst1 next)
    · rename_i hw
      rw [yielded_rel (w := w) hR.env hw]
      simp only [Bool.false_eq_true, if_false]
      exact ⟨fun _ _ => trivial, hK _ _ (ih st1 st' G _ w h (unwanted_put hR hst1) Q hQ)⟩
    · cases hst1

theorem keep_rel {nt : Nat} {G : Gh} {st : St} {a : Act} {w : World} (vars : List Nat) (h : Rel P B G nt st a w) : Rel P B G nt (keep vars st) a w := by
  have hlook : ∀ s, look (keep vars st).env s = look st.env s ∨ (look (keep vars st).env s = .undef ∧ vars.any (Nat.beq s) = false) := by
    intro s
    show look (vars.map fun s => (s, look st.env s)) s = _ ∨ _
    induction vars with
    | nil => exact .inr ⟨rfl, rfl⟩
    | cons v r ih =>
      simp only [List.map_cons, look_cons]
      by_cases hs : s = v
      · subst hs; rw [if_pos rfl]; exact .inl rfl
      · rcases ih with ih | ⟨ih1, ih2⟩
        · rw [if_neg hs]; exact .inl ih
        · refine .inr ⟨by show look ((v, look st.env v) :: _) s = _; rw [look_cons, if_neg hs]; exact ih1, ?_⟩
          simp only [List.any_cons, ih2, Bool.or_false]
          cases hb : Nat.beq s v with
          | false => rfl
          | true => exact absurd (Nat.eq_of_beq_eq_true hb) hs
  refine ⟨h.ok, h.heap, ⟨?_, ?_, ?_⟩, ?_, h.size, h.defers⟩
  · intro s hs
    have hm := List.mem_filter.1 hs
    have := h.own.slot s hm.1
    rcases hlook s with e | ⟨_, e2⟩
    · rw [e]; exact this
    · have h2 : vars.any (Nat.beq s) = true := hm.2
      rw [e2] at h2; cases h2
  · intro id off b k cs hm
    exact h.own.cell id off b k cs (List.mem_filter.1 hm).1
  · intro id off hm
    exact h.own.dom id off (List.mem_filter.1 hm).1
  · intro s
    rcases hlook s with e | ⟨e, _⟩
    · rw [e]; exact h.env s
    · rw [e]; exact .undef _

def exitOf : Ex → Exit
  | .normal => .normal
  | .exit id => .exit id
  | .ret => .ret
  | .goto l => .goto l

def CodeSound (P : Program) (ex : (Nat → List Nat) → Nat → Code → St → Option (Ex × St)) : Prop := ∀ vars nt c st e st', ex vars nt c st = some (e, st') → codeOk c = true → ∀ (ro : Option Nat) (m : Nat), (ro = none ∨ noRange c = true) → ∀ B G a w, Rel P B G nt st a w →
  ∀ Q, (∀ a' w' G', Rel P B G' nt st' a' w' → Ext G w G' w' → Q (exitOf e) a' w') → c.wpIn (fw ro) m P Q a w

/-! ### rounds -/
theorem put_all {M : Mem} : ∀ (ps : List Nat) (xs : List AV) (vs : List Value) (env : List (Nat × AV)) (tmps : Array Value), xs.length = ps.length → vs.length = ps.length → (∀ i, i < xs.length → Rep P M (xs.getD i .undef) (vs.getD i undef)) → (∀ p ∈ ps, p < tmps.size) → (∀ q, Rep P M (look env q) (tmps.getD q undef)) →
    ((ps.zip vs).foldl (fun tmps (t, a) => tmps.setIfInBounds t a) tmps).size = tmps.size ∧ ∀ q, Rep P M (look (putAll ps xs env) q) (((ps.zip vs).foldl (fun tmps (t, a) => tmps.setIfInBounds t a) tmps).getD q undef) := by
  intro ps
  induction ps with
  | nil =>
    intro xs vs env tmps h1 h2 h3 h4 h5
    refine ⟨rfl, fun q => ?_⟩
    cases xs with
    | nil => exact h5 q
    | cons x r => cases h1
  | cons p ps ih =>
    intro xs vs env tmps h1 h2 h3 h4 h5
    cases xs with
    | nil => cases h1
    | cons x xs =>
    cases vs with
    | nil => cases h2
    | cons v vs =>
      have hp := h4 p (by simp)
      obtain ⟨a1, a2⟩ := ih xs vs ((p, x) :: env) (tmps.setIfInBounds p v) (by simpa using h1) (by simpa using h2) (fun i hi => by
        have := h3 (i + 1) (by simp; omega)
        simpa using this) (fun q hq => by rw [Array.size_setIfInBounds]; exact h4 q (by simp [hq])) (fun q => by
        rw [look_cons]
        by_cases hq : q = p
        · subst hq
          rw [if_pos rfl]
          have := h3 0 (by simp)
          simpa [Array.getD_eq_getD_getElem?, hp] using this
        · rw [if_neg hq]
          have : (tmps.setIfInBounds p v).getD q undef = tmps.getD q undef := by
            simp only [Array.getD_eq_getD_getElem?]
            rw [Array.getElem?_setIfInBounds_ne (fun e => hq e.symm)]
          rw [this]; exact h5 q)
      refine ⟨?_, a2⟩
      simp only [List.zip_cons_cons, List.foldl_cons]
      rw [a1, Array.size_setIfInBounds]

theorem CallDone.back {G G0 G1 : Gh} {w0 w w' : World} {out : Out} {v : Value} (e : Ext G0 w0 G w) (h : CallDone P G w out v w' G1) : CallDone P G0 w0 out v w' G1 := ⟨e.trans h.ext, h.ok, h.heap, h.rep, h.own⟩
theorem Rel.cells {nt : Nat} {G : Gh} {st : St} {a : Act} {w : World} (h : Rel P B G nt st a w) : CellOwns P G st.H (st.own.filter Loc.isCell) w :=
  ⟨fun id off b k cs hm => h.own.cell id off b k cs (List.mem_filter.1 hm).1, fun id off hm => h.own.dom id off (List.mem_filter.1 hm).1⟩

theorem yield_sound {lo : Nat} {ex : (Nat → List Nat) → Nat → Code → St → Option (Ex × St)} (hex : CodeSound P ex) : YieldSound P (yieldA lo ex) := by
  intro id args H own out h G w vals l hf g hH ho har ro m
  unfold yieldA at h
  split at h
  case h_2 => cases h
  rename_i x0 vars nt env ps assign body hrec0
  have hrec : getRec H id = some (0, 0, x0, .rcd vars nt env ps assign body) := by
    cases hb : Nat.ble lo id with
    | true => rw [hb] at hrec0; exact hrec0
    | false => rw [hb] at hrec0; cases hrec0
  split at h
  case isFalse => cases h
  rename_i hc
  obtain ⟨hlen, hall⟩ := hc
  obtain ⟨L, hL, hst, hpend, ⟨vars', env', hy, hcode, henv⟩, hstep⟩ := loop_step g hH hf hrec
  injection hy with q1 q2 q3 q4 q5 q6
  subst q1 q3 q4 q5 q6
  simp only [Bool.and_eq_true] at hcode
  obtain ⟨⟨c1, c2⟩, c3, c4⟩ := hcode
  have hvs : vals.size = L.params.size := by rw [har.1, hlen, Array.length_toList]
  refine ⟨L, hL, hvs, roundIn_of_wpIn trivial ?_⟩
  rw [fw_round]
  have hfold : (L.params.zip vals).foldl (fun tmps (t, a) => tmps.setIfInBounds t a) L.tmps = (L.params.toList.zip vals.toList).foldl (fun tmps (t, a) => tmps.setIfInBounds t a) L.tmps := by
    rw [← Array.foldl_toList, Array.toList_zip]
  obtain ⟨s1, s2⟩ := put_all (P := P) (M := G.mem w) L.params.toList args vals.toList env L.tmps hlen (by rw [Array.length_toList, Array.length_toList, hvs]) (fun i hi => by
      have := har.2 i hi
      simpa [List.getD_eq_getElem?_getD, Array.getD_eq_getD_getElem?] using this) (fun p hp => by
      have := List.all_eq_true.1 hall p hp
      rw [← q2]
      exact Nat.blt_eq.mp this) henv
  have hR0 : Rel P w.heap.size G nt ⟨putAll L.params.toList args env, H, own.filter Loc.isCell⟩ { tmps := (L.params.zip vals).foldl (fun tmps (t, a) => tmps.setIfInBounds t a) L.tmps, defers := [] } w := by
    refine ⟨g, hH, ⟨fun s hs => ?_, fun i off b k cs hm => ho.cell i off b k cs (List.mem_filter.1 hm).1, fun i off hm => ho.dom i off (List.mem_filter.1 hm).1⟩, fun s => ?_, ?_, MarksOk.nil G (Nat.le_refl _)⟩
    · have := (List.mem_filter.1 hs).2; cases this
    · rw [hfold]; exact s2 s
    · rw [hfold, q2]; exact s1
  split at h
  case h_2 => cases h
  rename_i t1 ht1
  refine hex vars nt L.assign _ .normal t1 ht1 c1 (some l) m (.inr c2) _ G _ w hR0 _ ?_
  intro a1 w1 G1 hR1 hE1
  split at h
  case h_2 => cases h
  rename_i x1 y1 hrec1
  have hf1 : G1.f id = some l := hE1.f _ _ hf
  obtain ⟨L1, hL1, hst1, hpend1, hdat1, hstep1⟩ := loop_step hR1.ok hR1.heap hf1 hrec1
  obtain ⟨e1, g1, r1, o1, _⟩ := hstep1 1 0 0
  have hw2 : ({ L1 with state := LoopState.busy } : Loop) = { L1 with state := stateOf 1, pending := pendOf 0 0 } := by
    have : L1.pending = none := hpend1
    cases L1; simp only at this; subst this; rfl
  refine ⟨_, run_beginRound hL1 (by rw [hst1]; rfl), ?_⟩
  rw [hw2]
  split at h
  case h_2 => cases h
  rename_i e t2 ht2
  have hR2 : Rel P w.heap.size G1 nt ⟨t1.env, t1.H.set id (recA 1 0 0 y1), t1.own⟩ a1 (w1.putObj l (.loop { L1 with state := stateOf 1, pending := pendOf 0 0 })) := by
    obtain ⟨_, _, _, _, o2⟩ := hstep1 1 0 0
    have o3 := o2 _ hR1.cells
    exact ⟨g1, r1, ⟨fun s hs => o1 _ _ _ (hR1.own.slot s hs), fun i off b k cs hm hi hk hb => o3.cell i off b k cs (List.mem_filter.2 ⟨hm, rfl⟩) hi hk hb, fun i off hm => o3.dom i off (List.mem_filter.2 ⟨hm, rfl⟩)⟩, fun s => e1.rep (hR1.env s), hR1.size, hR1.defers.ext e1⟩
  refine hex vars nt L.body _ e t2 ht2 c3 (some l) m (.inr c4) _ G1 a1 _ hR2 _ ?_
  intro a3 w3 G3 hR3 hE3
  split at h
  case h_2 => cases h
  rename_i s2' k2' x2 y2 hrec3
  have hf3 : G3.f id = some l := hE3.f _ _ (e1.f _ _ hf1)
  obtain ⟨L3, hL3, hst3, hpend3, hdat3, hstep3⟩ := loop_step hR3.ok hR3.heap hf3 hrec3
  have hE : Ext G w G3 w3 := (hE1.trans e1).trans hE3
  have fin : ∀ (b : Bool) (jump : Option Code) (s' kd' x' : Nat), b = jump.isNone → (if jump.isNone then LoopState.ready else LoopState.done) = stateOf s' → jump = pendOf kd' x' → out = (.bool b, t2.H.set id (recA s' kd' x' y2), t2.own.filter Loc.isCell) →
      ∃ v w', (Instr.endRound l jump).run P w3 = .ok v w' ∧ ∃ v' G', Ending.returned v = .returned v' ∧ CallDone P G w out v' w' G' := by
    intro b jump s' kd' x' hb hs hj ho'
    obtain ⟨e4, g4, r4, o4, o5⟩ := hstep3 s' kd' x'
    refine ⟨_, _, run_endRound jump hL3, _, G3, rfl, ?_⟩
    rw [hs]
    have : ({ L3 with state := stateOf s', pending := jump } : Loop) = { L3 with state := stateOf s', pending := pendOf kd' x' } := by rw [hj]
    rw [this, ho']
    refine ⟨hE.trans e4, g4, r4, ?_, o5 _ hR3.cells⟩
    rw [← hb]; exact .bool _
  cases e with
  | normal => injection h with h; exact fin true none 0 0 0 rfl rfl rfl h.symm
  | ret => injection h with h; exact fin false (some .ret) 2 1 0 rfl rfl rfl h.symm
  | exit i => injection h with h; exact fin false (some (.exit i)) 2 2 i rfl rfl rfl h.symm
  | goto l => cases h

theorem loop_sound {K : Know} {vars : Nat → List Nat} {nt : Nat} {c : Code} {e : Ex} {st' : St} (hok : codeOk c = true) {ro : Option Nat} {fm : Nat} (hro : ro = none ∨ noRange c = true) {G0 : Gh} {w0 : World} {Q : Exit → Act → World → Prop}
    (hQ : ∀ a' w' G', Rel P B G' nt st' a' w' → Ext G0 w0 G' w' → Q (exitOf e) a' w') (n : Nat) (hall : ∀ m, m < n → CodeSound P (exec P K m)) (st : St) (G : Gh) (a : Act) (w : World) (h : exec P K n vars nt (.loop c) st = some (e, st')) (hR : Rel P B G nt st a w) (hE : Ext G0 w0 G w) :
    (Code.loop c).wpIn (fw ro) fm P Q a w := by
  intro b k cs hb1 hb hr
  have key : ∀ m, m ≤ n → ∀ st G a w, exec P K m vars nt (.loop c) st = some (e, st') → Rel P B G nt st a w → Ext G0 w0 G w →
      ∃ e' a' w', Q e' a' w' ∧ ArrivesIn (Machine.fenced P (fw ro)) P (lone (b.atR a (.code c :: .inLoop c :: k)) cs w) b k cs e' a' w' := by
    intro m
    induction m with
    | zero => intro _ st G a w h1; cases h1
    | succ m ih =>
      intro hmn st1 G1 a1 w1 h1 hR1 hE1
      have hs := hall m (by omega)
      change execK P (m + 1) K vars nt (.loop c) st1 = some (e, st') at h1
      rw [exec_succ] at h1
      simp only [execWith] at h1
      have body : ∀ Q1 : Exit → Act → World → Prop, c.wpIn (fw ro) fm P Q1 a1 w1 → ∃ e' a' w', Q1 e' a' w' ∧ ArrivesIn (Machine.fenced P (fw ro)) P (lone (b.atR a1 (.code c :: .inLoop c :: k)) cs w1) b (.inLoop c :: k) cs e' a' w' := fun Q1 h => h b (.inLoop c :: k) cs hb1 hb hr
      split at h1
      · rename_i st2 hst2
        obtain ⟨e2, a2, w2, hq, harr⟩ := body (Exit.then (fun a' w' => ∃ G2, Rel P B G2 nt st2 a' w' ∧ Ext G0 w0 G2 w') Q) (hs vars nt c st1 .normal st2 hst2 hok ro fm hro B G1 a1 w1 hR1 _ fun a2 w2 G2 hR2 hE2 => ⟨G2, hR2, hE1.trans hE2⟩)
        cases e2 with
        | normal =>
          obtain ⟨G2, hR2, hE2⟩ := hq
          obtain ⟨e3, a3, w3, hq3, harr3⟩ := ih (by omega) st2 G2 a2 w2 h1 hR2 hE2
          exact ⟨e3, a3, w3, hq3, .of_steps (StepsIn.trans harr (.one (fenced_calm hb hr rfl) stepR_inLoop)) harr3⟩
        | exit id => exact ⟨_, a2, w2, hq, .pass (x := .inLoop c) rfl (fun _ _ => .inl (by simp)) harr⟩
        | goto l => exact ⟨_, a2, w2, hq, .pass (x := .inLoop c) rfl (fun _ _ => .inl (by simp)) harr⟩
        | ret => exact ⟨_, a2, w2, hq, .pass (x := .inLoop c) rfl (fun _ _ => .inl (by simp)) harr⟩
        | panic ch => exact ⟨_, a2, w2, hq, .pass (x := .inLoop c) rfl (fun _ _ => .inl (by simp)) harr⟩
        | outgrown => exact ⟨_, a2, w2, hq, .pass (x := .inLoop c) rfl (fun _ _ => .inl (by simp)) harr⟩
      · rename_i r hne
        obtain ⟨e2, a2, w2, hq, harr⟩ := body (Exit.then (fun _ _ => False) Q) (hs vars nt c st1 e st' h1 hok ro fm hro B G1 a1 w1 hR1 _ fun a2 w2 G2 hR2 hE2 => by
          cases e with
          | normal => exact absurd h1 (hne st')
          | exit id' => exact hQ a2 w2 G2 hR2 (hE1.trans hE2)
          | goto l => exact hQ a2 w2 G2 hR2 (hE1.trans hE2)
          | ret => exact hQ a2 w2 G2 hR2 (hE1.trans hE2))
        cases e2 with
        | normal => exact hq.elim
        | exit id => exact ⟨_, a2, w2, hq, .pass (x := .inLoop c) rfl (fun _ _ => .inl (by simp)) harr⟩
        | goto l => exact ⟨_, a2, w2, hq, .pass (x := .inLoop c) rfl (fun _ _ => .inl (by simp)) harr⟩
        | ret => exact ⟨_, a2, w2, hq, .pass (x := .inLoop c) rfl (fun _ _ => .inl (by simp)) harr⟩
        | panic ch => exact ⟨_, a2, w2, hq, .pass (x := .inLoop c) rfl (fun _ _ => .inl (by simp)) harr⟩
        | outgrown => exact ⟨_, a2, w2, hq, .pass (x := .inLoop c) rfl (fun _ _ => .inl (by simp)) harr⟩
  obtain ⟨e', a', w', hq, harr⟩ := key n (Nat.le_refl _) st G a w h hR hE
  exact ⟨e', a', w', hq, .of_steps (.one (fenced_calm hb hr rfl) stepR_loop) harr⟩

theorem stepR_scope {w : World} {b : Frame} {a : Act} {k : List Item} {cs : List Frame} {c : Code} : step P (lone (b.atR a (.code (.scope c) :: k)) cs w) = .next (lone (b.atR a (.code c :: .inScope c :: k)) cs w) :=
  step_lone_go (by simp [stepG, stepG.exec, Frame.atR])
theorem stepR_inScope {w : World} {b : Frame} {a : Act} {k : List Item} {cs : List Frame} {c : Code} : step P (lone (b.atR a (.inScope c :: k)) cs w) = .next (lone (b.atR a k) cs w) :=
  step_lone_go (by simp [stepG, stepG.exec, Frame.atR])
theorem scope_sound {ex : (Nat → List Nat) → Nat → Code → St → Option (Ex × St)} {vars : Nat → List Nat} {nt : Nat} {c : Code} {e : Ex} {st' : St} (hok : codeOk c = true) {ro : Option Nat} {fm : Nat} (hro : ro = none ∨ noRange c = true) {G0 : Gh} {w0 : World} {Q : Exit → Act → World → Prop}
    (hQ : ∀ a' w' G', Rel P B G' nt st' a' w' → Ext G0 w0 G' w' → Q (exitOf e) a' w') (hs : CodeSound P ex) (n : Nat) (d : Code) (h0 : codeOk (.scope c) = true → codeOk d = true) (h1 : ro = none ∨ noRange d = true) (st : St) (G : Gh) (a : Act) (w : World) (h : scopeL (ex vars nt) c n d st = some (e, st')) (hR : Rel P B G nt st a w) (hE : Ext G0 w0 G w) (hcd : c = d) :
    (Code.scope c).wpIn (fw ro) fm P Q a w := by
  intro b k cs hb1 hb hr
  have key : ∀ m d st G a w, codeOk d = true → (ro = none ∨ noRange d = true) → scopeL (ex vars nt) c m d st = some (e, st') → Rel P B G nt st a w → Ext G0 w0 G w →
      ∃ e' a' w', Q e' a' w' ∧ ArrivesIn (Machine.fenced P (fw ro)) P (lone (b.atR a (.code d :: .inScope c :: k)) cs w) b k cs e' a' w' := by
    intro m
    induction m with
    | zero => intro d st G a w _ _ h1; cases h1
    | succ m ih =>
      intro d st1 G1 a1 w1 hd hrd h1 hR1 hE1
      unfold scopeL at h1
      have body : ∀ Q1 : Exit → Act → World → Prop, d.wpIn (fw ro) fm P Q1 a1 w1 → ∃ e' a' w', Q1 e' a' w' ∧ ArrivesIn (Machine.fenced P (fw ro)) P (lone (b.atR a1 (.code d :: .inScope c :: k)) cs w1) b (.inScope c :: k) cs e' a' w' := fun Q1 h => h b (.inScope c :: k) cs hb1 hb hr
      split at h1
      · rename_i l st2 hst2
        obtain ⟨e2, a2, w2, hq, harr⟩ := body (fun e' a' w' => e' = .goto l ∧ ∃ G2, Rel P B G2 nt st2 a' w' ∧ Ext G0 w0 G2 w') (hs vars nt d st1 (.goto l) st2 hst2 hd ro fm hrd B G1 a1 w1 hR1 _ fun a2 w2 G2 hR2 hE2 => ⟨rfl, G2, hR2, hE1.trans hE2⟩)
        obtain ⟨rfl, G2, hR2, hE2⟩ := hq
        split at h1
        · rename_i rest hrest
          have hg : gotoIn l (.inScope c :: k) = some (.code rest :: .inScope c :: k) := by simp [gotoIn, hrest]
          obtain ⟨e3, a3, w3, hq3, harr3⟩ := ih rest st2 G2 a2 w2 (codeOk_label c l rest hrest hok) (hro.imp (fun h => h) fun h => noRange_label c l rest hrest h) h1 hR2 hE2
          exact ⟨e3, a3, w3, hq3, .of_steps (harr.1 _ hg) harr3⟩
        · rename_i hnone
          injection h1 with h1; injection h1 with h2 h3
          subst h2; subst h3
          have hg : gotoIn l (.inScope c :: k) = gotoIn l k := by simp [gotoIn, hnone]
          exact ⟨.goto l, a2, w2, hQ _ _ _ hR2 hE2, ⟨fun k' hk => harr.1 k' (by rw [hg]; exact hk), fun hr hk => harr.2 hr (by rw [hg]; exact hk)⟩⟩
      · rename_i r hne
        have hq2 : d.wpIn (fw ro) fm P (fun e' a' w' => (∀ l, e' ≠ .goto l) ∧ Q e' a' w') a1 w1 := by
          refine hs vars nt d st1 e st' h1 hd ro fm hrd B G1 a1 w1 hR1 _ fun a2 w2 G2 hR2 hE2 => ⟨fun l he => ?_, hQ a2 w2 G2 hR2 (hE1.trans hE2)⟩
          cases e with
          | goto l' => exact hne l' st' h1
          | normal => cases he
          | exit i => cases he
          | ret => cases he
        obtain ⟨e2, a2, w2, ⟨hng, hq⟩, harr⟩ := body _ hq2
        cases e2 with
        | normal => exact ⟨.normal, a2, w2, hq, StepsIn.trans harr (.one (fenced_calm hb hr rfl) stepR_inScope)⟩
        | exit id => exact ⟨_, a2, w2, hq, ⟨fun k' hk => harr.1 k' (by simp [exitTo, hk]), fun hr hk => harr.2 hr (by simp [exitTo, hk])⟩⟩
        | goto l => exact absurd rfl (hng l)
        | ret => exact ⟨_, a2, w2, hq, harr⟩
        | panic ch => exact ⟨_, a2, w2, hq, harr⟩
        | outgrown => exact ⟨_, a2, w2, hq, harr⟩
  obtain ⟨e', a', w', hq, harr⟩ := key n d st G a w (h0 (by simpa only [codeOk] using hok)) h1 h hR hE
  subst hcd
  exact ⟨e', a', w', hq, .of_steps (.one (fenced_calm hb hr rfl) stepR_scope) harr⟩

/-- A loop over a function is entered: its record is laid. -/
theorem rel_enter {nt : Nat} {G : Gh} {w : World} {st : St} {a : Act} (hR : Rel P B G nt st a w) (fn0 : FuncId) (vars : Nat → List Nat) (ps : Array Tmp) (assign body : Code) (hc : (codeOk assign && noRange assign && (codeOk body && noRange body)) = true) :
    ∃ G1, G1.f st.H.length = some (w.heap.size + 1) ∧
      Rel P B G1 nt ⟨st.env, st.H ++ [recA 0 0 0 (.rcd vars nt st.env ps.toList assign body)], st.own⟩ { a with defers := [mark w.heap.size] ++ a.defers }
        ((w.alloc (.deferred (some []))).alloc (.loop { state := .ready, pending := none, fn := fn0, tmps := a.tmps, params := ps, assign, body, defers := w.heap.size })) ∧
      Ext G w G1 ((w.alloc (.deferred (some []))).alloc (.loop { state := .ready, pending := none, fn := fn0, tmps := a.tmps, params := ps, assign, body, defers := w.heap.size })) := by
  generalize hL : ({ state := .ready, pending := none, fn := fn0, tmps := a.tmps, params := ps, assign, body, defers := w.heap.size } : Loop) = L
  have g := hR.ok
  have hid : G.f st.H.length = none := by
    cases hf : G.f st.H.length with
    | none => rfl
    | some b => have := (hR.heap.dom _ _ hf).lt; omega
  have hbel : Below w.heap.size w ((w.alloc (.deferred (some []))).alloc (.loop L)) := ((Below.refl _ _).alloc (Nat.le_refl _) _).alloc (by rw [World.size_alloc]; omega) _
  have hs1 : (w.alloc (.deferred (some []))).heap.size = w.heap.size + 1 := World.size_alloc _ _
  have hs2 : ((w.alloc (.deferred (some []))).alloc (.loop L)).heap.size = w.heap.size + 2 := by rw [World.size_alloc, hs1]
  have hl : ((w.alloc (.deferred (some []))).alloc (.loop L)).heap[w.heap.size + 1]? = some (.loop L) := by
    have := World.alloc_heap_new (w.alloc (.deferred (some []))) (.loop L)
    rw [hs1] at this; exact this
  have hd : ((w.alloc (.deferred (some []))).alloc (.loop L)).heap[w.heap.size]? = some (.deferred (some [])) := by
    show ((w.heap.push (.deferred (some []))).push (.loop L))[w.heap.size]? = _
    rw [Array.getElem?_push_lt (by simp)]
    simp
  have hgf : ∀ i b, (G.map st.H.length (w.heap.size + 1) 0).f i = some b → (i = st.H.length ∧ b = w.heap.size + 1) ∨ (i ≠ st.H.length ∧ G.f i = some b) := by
    intro i b h
    change upd G.f st.H.length (some (w.heap.size + 1)) i = some b at h
    by_cases hi : i = st.H.length
    · subst hi; rw [upd_same] at h; injection h with h; exact .inl ⟨rfl, h.symm⟩
    · rw [upd_ne _ _ hi] at h; exact .inr ⟨hi, h⟩
  have gr : Grow G w (G.map st.H.length (w.heap.size + 1) 0) ((w.alloc (.deferred (some []))).alloc (.loop L)) := by
    refine ⟨hbel, fun _ _ => rfl, fun _ _ => rfl, fun b hb => upd_ne _ _ (by omega), fun i b h => ?_, fun i b h => ?_⟩
    · show upd G.f st.H.length _ i = _
      rw [upd_ne _ _ (by rintro rfl; rw [hid] at h; cases h)]; exact h
    · rcases hgf i b h with ⟨rfl, rfl⟩ | ⟨_, h⟩
      · exact .inr ⟨hid, by omega⟩
      · exact .inl h
  have hext := gr.ext g
  have hgok : GOk (G.map st.H.length (w.heap.size + 1) 0) ((w.alloc (.deferred (some []))).alloc (.loop L)) := by
    refine ⟨fun i b h => ?_, fun b hb => ?_, hext.held g.held⟩
    · rcases hgf i b h with ⟨rfl, rfl⟩ | ⟨_, h⟩
      · exact ⟨by rw [hs2]; omega, (g.new _ (by omega)).2.1⟩
      · obtain ⟨h1, h2⟩ := g.fin i b h
        exact ⟨by rw [hs2]; omega, h2⟩
    · rw [hs2] at hb
      obtain ⟨h1, h2, h3⟩ := g.new b (by omega)
      exact ⟨h1, h2, by show upd _ _ _ b = 0; rw [upd_ne _ _ (by omega)]; exact h3⟩
  have hH : ∀ i q, (st.H ++ [recA 0 0 0 (.rcd vars nt st.env ps.toList assign body)])[i]? = some (some q) → (i = st.H.length ∧ some q = recA 0 0 0 (.rcd vars nt st.env ps.toList assign body)) ∨ (i < st.H.length ∧ st.H[i]? = some (some q)) := by
    intro i q hi
    by_cases h1 : i < st.H.length
    · rw [List.getElem?_append_left h1] at hi; exact .inr ⟨h1, hi⟩
    · have h3 : i = st.H.length := by
        have := (List.getElem?_eq_some_iff.1 hi).1
        rw [List.length_append] at this
        simp only [List.length_cons, List.length_nil] at this
        omega
      subst h3
      rw [List.getElem?_append_right (Nat.le_refl _), Nat.sub_self] at hi
      injection hi with hi
      exact .inl ⟨rfl, hi.symm⟩
  refine ⟨G.map st.H.length (w.heap.size + 1) 0, upd_same _ _ _, ⟨hgok, ⟨fun i b h => ?_, fun i b q h hq => ?_, fun i j b q1 q2 h1 h2 hq1 hq2 n1 n2 => ?_, fun i b q h hq hn => ?_⟩, ⟨fun s hs => (hR.own.slot s hs).grow gr, fun i off b q cs hm h hq hb => ?_, fun i off hm => (hR.own.dom i off hm).append _⟩, fun s => hext.rep (hR.env s), hR.size, ?_⟩, hext⟩
  · rcases hgf i b h with ⟨rfl, rfl⟩ | ⟨_, h⟩
    · unfold recA
      refine ⟨_, by rw [List.getElem?_append_right (Nat.le_refl _), Nat.sub_self]; rfl⟩
    · exact (hR.heap.dom i b h).append _
  · rcases hgf i b h with ⟨rfl, rfl⟩ | ⟨hne, h⟩
    · rcases hH _ q hq with ⟨_, e⟩ | ⟨hlt, _⟩
      · have hqe : Nat.beq q.e LOOP = true := by unfold recA at e; injection e with e; rw [e]; exact Nat.beq_refl _
        refine ⟨fun e' => (by rw [hqe] at e'; cases e'), fun _ => .inl ⟨L, 0, 0, 0, vars, st.env, hl, ?_, ?_, ?_, ?_, fun s => ?_⟩⟩
        · rw [e, ← hL]; show _ = recA 0 0 0 (.rcd vars a.tmps.size st.env ps.toList assign body); rw [hR.size]
        · rw [← hL]; rfl
        · rw [← hL]; rfl
        · rw [← hL]; exact hc
        · have ht : L.tmps = a.tmps := by rw [← hL]
          rw [ht]; exact hext.rep (hR.env s)
      · exact absurd hlt (Nat.lt_irrefl _)
    · rcases hH i q hq with ⟨e, _⟩ | ⟨_, hq⟩
      · exact absurd e hne
      · exact (hR.heap.blk i b q h hq).grow gr g (g.fin i b h).1
  · rcases hgf i b h1 with ⟨a1, a2⟩ | ⟨a1, h1⟩ <;> rcases hgf j b h2 with ⟨b1, b2⟩ | ⟨b1, h2⟩
    · rw [a1, b1]
    · have := (g.fin j b h2).1; omega
    · have := (g.fin i b h1).1; omega
    · rcases hH i q1 hq1 with ⟨e, _⟩ | ⟨_, hq1⟩
      · exact absurd e a1
      · rcases hH j q2 hq2 with ⟨e, _⟩ | ⟨_, hq2⟩
        · exact absurd e b1
        · exact hR.heap.inj i j b q1 q2 h1 h2 hq1 hq2 n1 n2
  · rcases hgf i b h with ⟨_, rfl⟩ | ⟨hne, h⟩
    · exact (g.new _ (by omega)).1
    · rcases hH i q hq with ⟨e, _⟩ | ⟨_, hq⟩
      · exact absurd e hne
      · exact hR.heap.lim i b q h hq hn
  · rcases hgf i b h with ⟨rfl, rfl⟩ | ⟨hne, h⟩
    · have := (hR.own.dom _ off hm).lt; omega
    · rcases hH i q hq with ⟨e, _⟩ | ⟨_, hq⟩
      · exact absurd e hne
      · rw [hbel.block b (g.fin i b h).1] at hb
        exact (hR.own.cell i off b q cs hm h hq hb).grow gr
  · obtain ⟨h0, rs, h1, h2, h3⟩ := hR.defers.ext hext
    refine ⟨h0, w.heap.size :: rs, by show _ :: _ = _ :: _; rw [h1]; rfl, List.nodup_cons.2 ⟨fun hm => ?_, h2⟩, fun r hr => ?_⟩
    · obtain ⟨_, rs', h1', h2', h3'⟩ := hR.defers
      have : rs = rs' := by
        have e : rs.map mark = rs'.map mark := by rw [← h1, ← h1']
        have inj : ∀ x y : Nat, mark x = mark y → x = y := by
          intro x y h
          have h := congrArg Deferred.target h
          injection h
        exact (List.map_inj_right inj).1 e
      rw [this] at hm
      have := (Array.getElem?_eq_some_iff.1 (h3' _ hm).2.1).1
      omega
    · rcases List.mem_cons.1 hr with rfl | hr
      · refine ⟨hR.defers.1, hd, ?_⟩
        rintro (⟨i, hi⟩ | ho)
        · rcases hgf i _ hi with ⟨_, e⟩ | ⟨_, hi⟩
          · omega
          · have := (g.fin i _ hi).1; omega
        · have := (g.new w.heap.size (Nat.le_refl _)).2.1
          have ho : (G.owner w.heap.size).isSome = true := ho
          rw [this] at ho; cases ho
      · exact h3 r hr

theorem range_sound (hP : POk P) {call : CallA} (hcall : CallSound P call) {vars : Nat → List Nat} {nt : Nat} {gq : Operand} {ps : Array Tmp} {assign body : Code} {st st' : St} {e : Ex} (h : rangeA call P vars nt gq ps assign body st = some (e, st'))
    (hc : (codeOk assign && noRange assign && (codeOk body && noRange body)) = true) {m : Nat} {G : Gh} {a : Act} {w : World} (hR : Rel P B G nt st a w) {Q : Exit → Act → World → Prop} (hQ : ∀ a' w' G', Rel P B G' nt st' a' w' → Ext G w G' w' → Q (exitOf e) a' w') :
    (Code.rangeFunc gq ps assign body).wpIn (fw none) m P Q a w := by
  unfold rangeA at h
  split at h
  case h_2 => cases h
  rename_i f cap hf
  have rf := hR.env.opd hf
  generalize hfv : a.eval gq = fv at rf
  cases rf with
  | fn _ _ caps hcl hcr =>
  split at h
  case h_2 => cases h
  rename_i r hr
  unfold callA at hr
  cases hb : hasBody P f with
  | false => rw [hb] at hr; cases hr
  | true =>
  rw [hb] at hr
  simp only [cond_true] at hr
  split at hr
  case h_2 => cases hr
  rename_i x H' own' hcl'
  injection hr with hr
  subst hr
  simp only at h
  split at h
  case h_2 => cases h
  rename_i s k xx y hrec
  cases hs : Nat.beq s 1 with
  | true => rw [hs] at h; cases h
  | false =>
  rw [hs] at h
  simp only [cond_false] at h
  refine wpIn_rangeFunc fun fn0 _ => ?_
  obtain ⟨G1, hf1, hR1, hE1⟩ := rel_enter hR fn0 vars ps assign body hc
  have hent : (Instr.enterLoop fn0 a.tmps ps assign body none).run P w = .ok (w.heap.size + 1, [mark w.heap.size]) ((w.alloc (.deferred (some []))).alloc (.loop { state := .ready, pending := none, fn := fn0, tmps := a.tmps, params := ps, assign, body, defers := w.heap.size })) := run_enterLoop_outer _ _ _ _ _
  revert hR1 hE1 hent
  generalize ((w.alloc (.deferred (some []))).alloc (.loop { state := .ready, pending := none, fn := fn0, tmps := a.tmps, params := ps, assign, body, defers := w.heap.size })) = w1
  intro hR1 hE1 hent
  have hargs : ArgsRep P (G1.mem w1) (.yld st.H.length :: cap) (#[.func (.yield (w.heap.size + 1)) #[] #[]] ++ caps) := by
    refine args_append (xs := [.yld st.H.length]) ⟨rfl, fun i hi => ?_⟩ ⟨hcl, fun i hi => hE1.rep (hcr i hi)⟩
    have : i = 0 := by simpa using hi
    subst this
    exact .yld _ _ hf1
  have hcs := hcall f _ _ _ _ hcl' G1.callee _ _ (callee_gok hR1.ok) ⟨hR1.heap.dom, hR1.heap.blk, hR1.heap.inj, hR1.heap.lim⟩
    ⟨fun id off b k cs hm hf hk hb => callee_own (hR1.own.cell id off b k cs (List.mem_filter.1 (mem_canon.1 hm)).1 hf hk hb), fun id off hm => hR1.own.dom id off (List.mem_filter.1 (mem_canon.1 hm)).1⟩ hargs
  have hres : (resolve a.eval (rangeCall gq (w.heap.size + 1)) 0).run P w1 = .ok { target := .fn (.func f) caps, args := #[.func (.yield (w.heap.size + 1)) #[] #[]] } w1 := by
    have e : Array.map a.eval (rangeCall gq (w.heap.size + 1)).args = #[.func (.yield (w.heap.size + 1)) #[] #[]] := by
      apply Array.ext'
      rw [Array.toList_map]
      rfl
    simp only [resolve, hfv, Deferred.ofValue, Sem.run_bind, Sem.run_pure, Result.andThen_ok, e, Array.empty_append]
  have hinv : (invoke (.fn (.func f) caps) #[.func (.yield (w.heap.size + 1)) #[] #[]]).run P w1 = .ok (.enter f (#[.func (.yield (w.heap.size + 1)) #[] #[]] ++ caps)) w1 := by
    simp only [invoke]
    exact run_callFunc hP.num hb _
  have key : CallsIn (fw none) (m - 1) P f (#[.func (.yield (w.heap.size + 1)) #[] #[]] ++ caps) w1 (rangePost (fw none) m P (w.heap.size + 1) Q { a with defers := [mark w.heap.size] ++ a.defers }) := by
    refine calls_fw (hcs.mono ?_)
    rintro e' w3 ⟨v, G', rfl, hdone⟩
    obtain ⟨d, hd⟩ := fresh_slot (st.own.filter (fun l => !l.isCell) ++ own'.filter Loc.isCell)
    have hdn := back_done hR1.ok hR1.heap hR1.own hdone d
    obtain ⟨hR3, hE3⟩ := put_sound (dst := none) hR1 (st' := ⟨st.env, H', st.own.filter (fun l => !l.isCell) ++ own'.filter Loc.isCell⟩) rfl d (fun q e => by cases e) (fun _ => hd) hdn
    have hf3 : (G1.back G').f st.H.length = some (w.heap.size + 1) := hE3.f _ _ hf1
    obtain ⟨L3, hL3, hst3, hpend3, _, hstep3⟩ := loop_step hR3.ok hR3.heap hf3 hrec
    have hbusy : L3.state ≠ .busy := by
      rw [hst3]
      match s, hs with
      | 0, _ => intro e; cases e
      | 2, _ => intro e; cases e
      | s + 3, _ => intro e; cases e
    refine ⟨_, _, run_endLoop hL3 hbusy, ?_⟩
    obtain ⟨e4, g4, r4, o4, o5⟩ := hstep3 3 k xx
    have hw4 : ({ L3 with state := LoopState.exhausted } : Loop) = { L3 with state := stateOf 3, pending := pendOf k xx } := by rw [← hpend3]; rfl
    rw [hw4]
    have c5 := o5 _ hR3.cells
    have hR4 : Rel P B (G1.back G') nt ⟨st.env, H'.set st.H.length (recA 3 k xx y), st.own.filter (fun l => !l.isCell) ++ own'.filter Loc.isCell⟩ { a with defers := [mark w.heap.size] ++ a.defers } (w3.putObj (w.heap.size + 1) (.loop { L3 with state := stateOf 3, pending := pendOf k xx })) :=
      ⟨g4, r4, ⟨fun s hs => o4 _ _ _ (hR3.own.slot s hs), fun i off b q cs hm hi hk hb => c5.cell i off b q cs (List.mem_filter.2 ⟨hm, rfl⟩) hi hk hb, fun i off hm => c5.dom i off (List.mem_filter.2 ⟨hm, rfl⟩)⟩, fun s => e4.rep (hR3.env s), hR3.size, hR3.defers.ext e4⟩
    have hE4 : Ext G w (G1.back G') (w3.putObj (w.heap.size + 1) (.loop { L3 with state := stateOf 3, pending := pendOf k xx })) := (hE1.trans hE3).trans e4
    rw [hpend3]
    match k, h, hR4, hE4 with
    | 0, h, hR4, hE4 =>
      injection h with h; injection h with h1 h2; subst h1; subst h2
      exact hQ _ _ _ hR4 hE4
    | 1, h, hR4, hE4 =>
      injection h with h; injection h with h1 h2; subst h1; subst h2
      exact wpIn_ret (hQ _ _ _ hR4 hE4)
    | k + 2, h, hR4, hE4 =>
      injection h with h; injection h with h1 h2; subst h1; subst h2
      exact wpIn_exit (hQ _ _ _ hR4 hE4)
  exact ⟨w.heap.size + 1, [mark w.heap.size], w1, { target := .fn (.func f) caps, args := #[.func (.yield (w.heap.size + 1)) #[] #[]] }, w1, f, _, w1, hent, hres, fun _ _ => trivial, hinv, (fun e => by cases e), key⟩

theorem chk_sound {call : CallA} (h : CallSound P call) : CallSound P (chk call) := by
  intro f args H own out hc
  change cond (Nat.ble call.lo H.length) (call f args H own) none = some out at hc
  cases hb : Nat.ble call.lo H.length with
  | false => rw [hb] at hc; cases hc
  | true => rw [hb] at hc; exact h f args H own out hc
theorem chk_len {call : CallA} (h : CallLock call) : CallLen (chk call) := by
  intro f args H own x H' own' hc
  change cond (Nat.ble call.lo H.length) (call f args H own) none = some (x, H', own') at hc
  cases hb : Nat.ble call.lo H.length with
  | false => rw [hb] at hc; cases hc
  | true => rw [hb] at hc; exact (h f args H own x H' own' hc (Nat.ble_eq.mp hb)).1
theorem code_step {K : Know} (hP : POk P) (n : Nat) (hcall : CallSound P (cN P K n)) (hdn : CallSound P (dN P K n)) (hloc : FullLock (dN P K n) ∧ CallFill (dN P K n)) (hlk : CallLock (cN P K n)) (hall : ∀ m, m < n + 1 → CodeSound P (exec P K m)) : CodeSound P (exec P K (n + 1)) := by
  have hex := hall n (Nat.lt_succ_self n)
  intro vars nt c st e st' h hok ro fm hro B G a w hR Q hQ
  have hfull := h
  change execK P (n + 1) K vars nt c st = some (e, st') at h
  rw [exec_succ] at h
  cases c with
  | skip => simp only [execWith, Option.some.injEq, Prod.mk.injEq] at h; obtain ⟨rfl, rfl⟩ := h; exact wpIn_skip (hQ a w G hR (Ext.refl _ _))
  | region id ops draw =>
    simp only [execWith] at h
    split at h
    · rename_i st1 hst1
      injection h with h; injection h with h1 h2; subst h1; subst h2
      have hQ' : ∀ a' w' G', Rel P B G' nt st1 a' w' → Ext G w G' w' → Q Exit.normal a' w' := fun a' w' G' h1 h2 => hQ a' w' G' (keep_rel (vars id) h1) h2
      cases draw with
      | false => exact wpIn_region_list (list_sound hP.num hcall (yield_sound hex) ops.toList st st1 G a w hst1 hR Q hQ')
      | true =>
        simp only [codeOk, Bool.not_true, Bool.false_or] at hok
        simp only [cond_true] at hst1
        split at hst1
        case h_2 => cases hst1
        rename_i lt hlt
        refine hP.draw (selC (cN P K n) (dN P K n) ops.toList) (fun o => ?_) ro fm B nt id ops st st1 G a w hok (fun hm => ⟨fun o ho => ?_, fun o => ?_⟩) lt (lateW_some hlt) hst1 hR Q hQ'
        · unfold selC
          cases mixed ops.toList with
          | false => exact hcall
          | true => cases mixAt ops.toList o with
            | true => exact hdn
            | false => exact chk_sound hcall
        · unfold selC
          rw [hm, ho]; exact hloc
        · unfold selC
          rw [hm]
          cases mixAt ops.toList o with
          | true => exact fun f args H own x H' own' hc => (hloc.1 f args H own x H' own' hc).1
          | false => exact chk_len hlk
    · cases h
  | seq x y =>
    simp only [execWith] at h
    simp only [codeOk, Bool.and_eq_true] at hok
    split at h
    · rename_i st1 hst1
      refine wpIn_seq (hex vars nt x st .normal st1 hst1 hok.1 ro fm (hro.imp (fun h => h) fun h => (Bool.and_eq_true _ _ ▸ (show (noRange x && noRange y) = true from h)).1) B G a w hR _ ?_)
      intro a1 w1 G1 hR1 hE1
      exact hex vars nt y st1 e st' h hok.2 ro fm (hro.imp (fun h => h) fun h => (Bool.and_eq_true _ _ ▸ (show (noRange x && noRange y) = true from h)).2) B G1 a1 w1 hR1 Q fun a2 w2 G2 h2 e2 => hQ a2 w2 G2 h2 (hE1.trans e2)
    · rename_i r hne
      refine wpIn_seq (hex vars nt x st e st' h hok.1 ro fm (hro.imp (fun h => h) fun h => (Bool.and_eq_true _ _ ▸ (show (noRange x && noRange y) = true from h)).1) B G a w hR _ ?_)
      intro a1 w1 G1 hR1 hE1
      cases e with
      | normal => exact absurd h (hne st')
      | exit id => exact hQ a1 w1 G1 hR1 hE1
      | goto l => exact hQ a1 w1 G1 hR1 hE1
      | ret => exact hQ a1 w1 G1 hR1 hE1
  | cond c x y =>
    simp only [execWith] at h
    simp only [codeOk, Bool.and_eq_true] at hok
    split at h
    · rename_i t ht
      have := bool_inv (hR.env.opd ht)
      refine wpIn_cond this ?_
      cases t with
      | true => exact hex vars nt x st e st' h hok.1 ro fm (hro.imp (fun h => h) fun h => (Bool.and_eq_true _ _ ▸ (show (noRange x && noRange y) = true from h)).1) B G a w hR Q hQ
      | false => exact hex vars nt y st e st' h hok.2 ro fm (hro.imp (fun h => h) fun h => (Bool.and_eq_true _ _ ▸ (show (noRange x && noRange y) = true from h)).2) B G a w hR Q hQ
    · cases h
  | block id c =>
    simp only [execWith] at h
    simp only [codeOk] at hok
    split at h
    · rename_i i st1 hst1
      refine wpIn_block (hex vars nt c st (.exit i) st1 hst1 hok ro fm (hro.imp (fun h => h) fun h => h) B G a w hR _ ?_)
      intro a1 w1 G1 hR1 hE1
      cases hi : Nat.beq i id with
      | true =>
        rw [hi] at h; simp only [cond_true, Option.some.injEq, Prod.mk.injEq] at h
        obtain ⟨rfl, rfl⟩ := h
        have := Nat.eq_of_beq_eq_true hi
        show Exit.inBlock id Q (.exit i) a1 w1
        simp only [Exit.inBlock, this, if_true]
        exact hQ a1 w1 G1 hR1 hE1
      | false =>
        rw [hi] at h; simp only [cond_false, Option.some.injEq, Prod.mk.injEq] at h
        obtain ⟨rfl, rfl⟩ := h
        show Exit.inBlock id Q (.exit i) a1 w1
        have hne : i ≠ id := by rintro rfl; rw [Nat.beq_refl] at hi; cases hi
        simp only [Exit.inBlock, hne, if_false]
        exact hQ a1 w1 G1 hR1 hE1
    · rename_i r hne
      refine wpIn_block (hex vars nt c st e st' h hok ro fm (hro.imp (fun h => h) fun h => h) B G a w hR _ ?_)
      intro a1 w1 G1 hR1 hE1
      cases e with
      | normal => exact hQ a1 w1 G1 hR1 hE1
      | exit id' => exact absurd h (hne id' st')
      | goto l => exact hQ a1 w1 G1 hR1 hE1
      | ret => exact hQ a1 w1 G1 hR1 hE1
  | loop c => exact loop_sound (c := c) (by simpa only [codeOk] using hok) (hro.imp (fun h => h) fun h => h) hQ (n + 1) hall st G a w hfull hR (Ext.refl _ _)
  | exit id => simp only [execWith, Option.some.injEq, Prod.mk.injEq] at h; obtain ⟨rfl, rfl⟩ := h; exact wpIn_exit (hQ a w G hR (Ext.refl _ _))
  | label l => simp only [execWith, Option.some.injEq, Prod.mk.injEq] at h; obtain ⟨rfl, rfl⟩ := h; exact wpIn_label (hQ a w G hR (Ext.refl _ _))
  | ret => simp only [execWith, Option.some.injEq, Prod.mk.injEq] at h; obtain ⟨rfl, rfl⟩ := h; exact wpIn_ret (hQ a w G hR (Ext.refl _ _))
  | rangeFunc gq ps assign body =>
    simp only [execWith] at h
    cases hc : (noRange assign && noRange body) with
    | false => rw [hc] at h; cases h
    | true =>
      rw [hc] at h
      simp only [cond_true] at h
      rcases hro with rfl | hro
      · simp only [codeOk, Bool.and_eq_true] at hok hc
        exact range_sound hP hcall h (by simp only [Bool.and_eq_true]; exact ⟨⟨hok.1, hc.1⟩, hok.2, hc.2⟩) hR hQ
      · cases hro
  | scope c =>
    simp only [execWith] at h
    refine scope_sound (c := c) (by simpa only [codeOk] using hok) (hro.imp (fun h => h) fun h => h) hQ hex 100000 c (fun _ => by simpa only [codeOk] using hok) (hro.imp (fun h => h) fun h => h) st G a w h hR (Ext.refl _ _) rfl
  | goto l => simp only [execWith, Option.some.injEq, Prod.mk.injEq] at h; obtain ⟨rfl, rfl⟩ := h; exact wpIn_goto (hQ a w G hR (Ext.refl _ _))
  | refuse s => cases h

theorem look_zip : ∀ (args : List AV) (k s : Nat), look (zipArgs k args) s = if k ≤ s then args.getD (s - k) .undef else .undef := by
  intro args
  induction args with
  | nil => intro k s; simp [zipArgs, look]
  | cons x r ih =>
    intro k s
    simp only [zipArgs]
    rw [look_cons, ih]
    by_cases h : s = k
    · subst h; rw [if_pos rfl, if_pos (Nat.le_refl _), Nat.sub_self]; rfl
    · rw [if_neg h]
      by_cases hk : k ≤ s
      · rw [if_pos (by omega), if_pos hk]
        have : s - k = (s - (k + 1)) + 1 := by omega
        rw [this, List.getD_cons_succ]
      · rw [if_neg (by omega), if_neg hk]

def resSem (tmps : Array Value) : ResultVar → Sem Value
  | .tmp t => pure (tmps.getD t undef)
  | .cell a t => do loadVar t (← asAddr (tmps.getD a undef))
theorem result_sound {G : Gh} {nt : Nat} {st : St} {a : Act} {w : World} (hR : Rel P B G nt st a w) {r : ResultVar} {x : AV} (h : resultA P st r = some x) :
    ∃ v, (resSem a.tmps r).run P w = .ok v w ∧ Rep P (G.mem w) x v := by
  cases r with
  | tmp t => simp only [resultA, Option.some.injEq] at h; subst h; exact ⟨_, rfl, hR.env t⟩
  | cell ad t =>
    simp only [resultA] at h
    split at h
    · rename_i id off hl
      have r1 := hR.env ad
      rw [hl] at r1
      obtain ⟨u, hu, ru, _⟩ := load_sound h r1 (fun id off b k _ hf hk => hR.heap.blk id b k hf hk)
      generalize hv : a.tmps.getD ad undef = v at r1 hu
      cases r1 with
      | ptr _ _ b hf =>
        refine ⟨u, ?_, ru⟩
        simp only [resSem, hv, asAddr, Sem.run_bind, Sem.run_pure, Result.andThen_ok]
        simpa only [Instr.loadAt, Instr.sureAddr, Sem.run_bind, Sem.run_pure, Result.andThen_ok] using hu
    · cases h

theorem results_sound {G : Gh} {nt : Nat} {st : St} {a : Act} {w : World} (hR : Rel P B G nt st a w) {fn : Func} {x : AV} (h : resultsA P st fn.results.toList = some x) : ∃ v, (results fn a.tmps).run P w = .ok v w ∧ Rep P (G.mem w) x v := by
  have key : ∀ (rs : List ResultVar) (xs : List AV), rs.mapM (resultA P st) = some xs → ∃ vs : List Value, (rs.mapM (resSem a.tmps)).run P w = .ok vs w ∧ vs.length = xs.length ∧ ∀ i, i < xs.length → Rep P (G.mem w) (xs.getD i .undef) (vs.getD i undef) := by
    intro rs
    induction rs with
    | nil => intro xs h; simp at h; subst h; exact ⟨[], rfl, rfl, fun i hi => by simp at hi⟩
    | cons r rs ih =>
      intro xs h
      rw [List.mapM_cons] at h
      cases hr : resultA P st r with
      | none => simp [hr] at h
      | some y =>
        cases hrs : rs.mapM (resultA P st) with
        | none => simp [hr, hrs] at h
        | some ys =>
          simp [hr, hrs] at h; subst h
          obtain ⟨v, hv, rv⟩ := result_sound hR hr
          obtain ⟨vs, h1, h2, h3⟩ := ih ys hrs
          refine ⟨v :: vs, ?_, by simp [h2], ?_⟩
          · simp only [List.mapM_cons, Sem.run_bind, hv, Result.andThen_ok, h1, Sem.run_pure]
          · intro i hi
            cases i with
            | zero => exact rv
            | succ i =>
              simp only [List.length_cons] at hi
              have := h3 i (by omega)
              simpa [List.getD_eq_getElem?_getD] using this
  have hrun : ∀ vs : List Value, (fn.results.toList.mapM (resSem a.tmps)).run P w = .ok vs w → (results fn a.tmps).run P w = .ok (if h : vs.toArray.size = 1 then vs.toArray[0] else .tuple vs.toArray) w := by
    intro vs hvs
    have hres : results fn a.tmps = (do let vs ← fn.results.mapM (resSem a.tmps); pure (if h : vs.size = 1 then vs[0] else .tuple vs)) := rfl
    rw [hres, Array.mapM_eq_mapM_toList]
    simp only [Sem.run_bind, Sem.run_map, hvs, Result.andThen_ok, Sem.run_pure]
  unfold resultsA at h
  split at h
  · rename_i rs r heq
    have hm : fn.results.toList.mapM (resultA P st) = some [x] := by rw [heq]; simp [h]
    obtain ⟨vs, h1, h2, h3⟩ := key _ _ hm
    simp only [List.length_cons, List.length_nil] at h2
    have hr := hrun vs h1
    obtain ⟨v, rfl⟩ : ∃ v, vs = [v] := by
      cases vs with
      | nil => cases h2
      | cons v r => cases r with
        | nil => exact ⟨v, rfl⟩
        | cons _ _ => simp at h2
    exact ⟨v, hr, h3 0 (by simp)⟩
  · rename_i rs hne
    cases hm : fn.results.toList.mapM (resultA P st) with
    | none => rw [hm] at h; cases h
    | some xs =>
      rw [hm] at h; simp only [Option.map_some, Option.some.injEq] at h; subst h
      obtain ⟨vs, h1, h2, h3⟩ := key _ _ hm
      have hr := hrun vs h1
      have hl : vs.length ≠ 1 := by
        intro e
        rw [e] at h2
        have : ∀ (rs : List ResultVar) (xs : List AV), rs.mapM (resultA P st) = some xs → rs.length = xs.length := by
          intro rs
          induction rs with
          | nil => intro xs h; simp at h; subst h; rfl
          | cons r rs ih =>
            intro xs h
            rw [List.mapM_cons] at h
            cases hr : resultA P st r with
            | none => simp [hr] at h
            | some y =>
              cases hrs : rs.mapM (resultA P st) with
              | none => simp [hr, hrs] at h
              | some ys => simp [hr, hrs] at h; subst h; simp [ih ys hrs]
        have hlen := this _ _ hm
        rw [← h2] at hlen
        obtain ⟨q, hq⟩ := List.length_eq_one_iff.1 hlen
        exact hne q hq
      have hs : ¬ (vs.toArray.size = 1) := by simpa using hl
      rw [dif_neg hs] at hr
      refine ⟨_, hr, .tup _ _ (by simpa using h2) ?_⟩
      intro i hi
      have := h3 i hi
      simpa [List.getD_eq_getElem?_getD, Array.getD_eq_getD_getElem?] using this

/-- What is taken on trust of the calls that go by a law of their own: that it is one. -/
def ShortSound (P : Program) (K : Know) : Prop := ∀ f g, K.short f = some g → ∀ lo, CallSound P ⟨fun f' args H own => if f' = f then g lo args H own else none, lo⟩

/-- A frame leaves: the marks' blocks are shut. -/
theorem shut_rel {nt : Nat} {G G0 : Gh} {w w0 : World} {st : St} {tmps : Array Value} {r : Nat} {ds : List Deferred} (hR : Rel P w0.heap.size G nt st { tmps := tmps, defers := mark r :: ds } w) (hE : Ext G0 w0 G w) (hK : Held G0 w0) :
    w.heap[r]? = some (.deferred (some [])) ∧ Rel P w0.heap.size G nt st { tmps := tmps, defers := ds } (w.putObj r (.deferred none)) ∧ Ext G0 w0 G (w.putObj r (.deferred none)) := by
  obtain ⟨h0, rs, h1, h2, h3⟩ := hR.defers
  cases rs with
  | nil => cases h1
  | cons q rs =>
  have h1 : mark r :: ds = mark q :: rs.map mark := h1
  injection h1 with h1 h1'
  have h1 := congrArg Deferred.target h1
  injection h1 with h1
  subst h1
  obtain ⟨hq0, hq1, hq2⟩ := h3 r (by simp)
  obtain ⟨hn1, hn2⟩ := List.nodup_cons.1 h2
  have hoth : ∀ q, q ≠ r → (w.putObj r (.deferred none)).heap[q]? = w.heap[q]? := fun q hq => World.putObj_heap_other hq
  have hprot : ∀ b o v, pmOf w G b o = some v → pmOf (w.putObj r (.deferred none)) G b o = some v := by
    intro b o v hv
    have hb : b ≠ r := by
      rintro rfl
      unfold pmOf at hv
      split at hv
      · simp [World.cell?, hq1] at hv
      · cases hv
    unfold pmOf at hv ⊢
    split at hv
    · rename_i hlt'; rw [if_pos hlt', World.cell?_of_block (hoth b hb)]; exact hv
    · cases hv
  have hm : (G.mem w).le (G.mem (w.putObj r (.deferred none))) := ⟨hprot, fun _ _ h => h, fun _ => Nat.le_refl _⟩
  have hfr : ∀ i b, G.f i = some b → b ≠ r := by rintro i b h rfl; exact hq2 (.inl ⟨i, h⟩)
  have hown : ∀ lc z u, OwnAt P G w lc z u → OwnAt P G (w.putObj r (.deferred none)) lc z u := by
    intro lc z u ro e xs hx
    obtain ⟨sz, cells, a1, a2, a3, a4⟩ := ro e xs hx
    refine ⟨sz, cells, a1, a2, a3.kept (grownBy_putObj' w r _) (row := some r) ?_, a4⟩
    cases hu : u.ownBlock with
    | none => exact .inl rfl
    | some q =>
      refine .inr ?_
      intro e
      injection e with e
      subst e
      exact hq2 (.inr (by rw [(a4 q hu).1]; rfl))
  have hE' : Ext G0 w0 G (w.putObj r (.deferred none)) := by
    refine ⟨hE.os, hE.tape, hE.output, by rw [World.putObj_size]; exact hE.size, fun b o v h => hprot b o v (hE.prot b o v h), hE.f, hE.bs, fun b hb hn => ?_⟩
    obtain ⟨a1, a2, a3⟩ := hE.foreign b hb hn
    exact ⟨(hoth b (by omega)).trans a1, a2, a3⟩
  refine ⟨hq1, ⟨⟨fun i b h => by rw [World.putObj_size]; exact hR.ok.fin i b h, fun b hb => hR.ok.new b (by rw [World.putObj_size] at hb; exact hb), hE'.held hK⟩,
    ⟨hR.heap.dom, fun i b k h hk => (hR.heap.blk i b k h hk).to (hoth b (hfr i b h)) rfl hm, hR.heap.inj, hR.heap.lim⟩,
    ⟨fun s hs => hown _ _ _ (hR.own.slot s hs), fun i off b k cs hm hi hk hb => hown _ _ _ (hR.own.cell i off b k cs hm hi hk (by rw [hoth b (hfr i b hi)] at hb; exact hb)), hR.own.dom⟩,
    fun s => (hR.env s).mono hm, hR.size, ?_⟩, hE'⟩
  · refine ⟨by rw [World.putObj_size]; exact h0, rs, h1', hn2, fun q hq => ?_⟩
    obtain ⟨a1, a2, a3⟩ := h3 q (by simp [hq])
    have hqr : q ≠ r := by rintro rfl; exact hn1 hq
    exact ⟨a1, (hoth q hqr).trans a2, a3⟩

theorem leaves_marks {nt : Nat} {G G0 : Gh} {w0 : World} {st : St} {tmps : Array Value} {fn : Func} {x : AV} {ro : Option Nat} {m : Nat} (hK : Held G0 w0) (hx : resultsA P st fn.results.toList = some x) : ∀ (ds : List Deferred) (w : World), Rel P w0.heap.size G nt st { tmps := tmps, defers := ds } w → Ext G0 w0 G w →
    LeavesInM (fw ro) m P fn tmps (fun e w' => ∃ v G', e = .returned v ∧ CallDone P G0 w0 (x, st.H, st.own.filter Loc.isCell) v w' G') ds .returning w := by
  intro ds
  induction ds with
  | nil =>
    intro w hR hE
    obtain ⟨v, hv, rv⟩ := results_sound hR hx
    exact ⟨v, hv, v, G, rfl, hE, hR.ok, hR.heap, rv, hR.cells⟩
  | cons d ds ih =>
    intro w hR hE
    obtain ⟨r, rfl⟩ : ∃ r, d = mark r := by
      obtain ⟨_, rs, h1, _⟩ := hR.defers
      cases rs with
      | nil => cases h1
      | cons q rs => exact ⟨q, (List.cons.inj h1).1⟩
    obtain ⟨h1, h2, h3⟩ := shut_rel hR hE hK
    exact ⟨by simp, .inl ⟨r, _, rfl, run_takeDeferred h1, ih _ h2 h3⟩⟩

theorem body_step {K : Know} (hP : POk P) (n : Nat) (hex : CodeSound P (exec P K n)) : CallSound P ⟨bodyA (exec P K n) P K, K.lo⟩ := by
  intro f args H own out h G w vals g hH ho har
  change bodyA (exec P K n) P K f args H own = some out at h
  unfold bodyA at h
  split at h
  case h_2 => cases h
  rename_i fn hfn
  split at h
  case h_2 => cases h
  rename_i c hc
  split at h
  case isFalse => cases h
  rename_i hle
  have hok := hP.code f fn c hfn hc
  have hdone : ∀ e st1, exec P K n (K.vars f) fn.ntmps c ⟨zipArgs 0 args, H, own.filter Loc.isCell⟩ = some (e, st1) → (e = .ret ∨ e = .normal) → (resultsA P st1 fn.results.toList).map (fun x => (x, st1.H, st1.own.filter Loc.isCell)) = some out →
      Calls P f vals w fun e w' => ∃ v G', e = .returned v ∧ CallDone P G w out v w' G' := by
    intro e st1 hst he hres
    cases hx : resultsA P st1 fn.results.toList with
    | none => rw [hx] at hres; cases hres
    | some x =>
      rw [hx] at hres; simp only [Option.map_some, Option.some.injEq] at hres; subst hres
      refine of_calls_fw (ro := none) (n := 0) (callsIn_of_wp_marks hfn hc trivial ?_)
      have hR0 : Rel P w.heap.size G fn.ntmps ⟨zipArgs 0 args, H, own.filter Loc.isCell⟩ { tmps := vals ++ Array.replicate (fn.ntmps - vals.size) undef, defers := [] } w := by
        refine ⟨g, hH, ⟨?_, ?_, ?_⟩, ?_, ?_, MarksOk.nil G (Nat.le_refl _)⟩
        · intro s hs; have := (List.mem_filter.1 hs).2; cases this
        · intro id off b k cs hm; exact ho.cell id off b k cs (List.mem_filter.1 hm).1
        · intro id off hm; exact ho.dom id off (List.mem_filter.1 hm).1
        · intro s
          show Rep P (G.mem w) (look (zipArgs 0 args) s) _
          rw [look_zip, if_pos (Nat.zero_le _), Nat.sub_zero]
          by_cases hs : s < args.length
          · have := har.2 s hs
            rw [Array.getD_eq_getD_getElem?] at this ⊢
            rw [Array.getElem?_append_left (by rw [har.1]; exact hs)]
            exact this
          · rw [List.getD_eq_getElem?_getD, List.getElem?_eq_none (by omega)]
            exact .undef _
        · simp only [Array.size_append, Array.size_replicate, har.1]; omega
      refine hex _ _ _ _ _ _ hst hok none 0 (.inl rfl) _ G _ w hR0 _ ?_
      intro a' w' G' hR' hE
      have hl := leaves_marks (ro := none) (m := 0) g.held hx a'.defers w' hR' hE
      rcases he with rfl | rfl
      · exact hl
      · exact hl
  split at h
  · rename_i st1 hst; exact hdone _ _ hst (.inl rfl) h
  · rename_i st1 hst; exact hdone _ _ hst (.inr rfl) h
  · cases h

theorem call_step {K : Know} (hP : POk P) (hS : ShortSound P K) (n : Nat) (hex : CodeSound P (exec P K n)) : CallSound P (cN P K (n + 1)) := by
  intro f args H own out h G w vals g hH ho har
  change callK P (n + 1) K f args H own = some out at h
  rw [call_succ] at h
  split at h
  · rename_i q hq
    exact hS f q hq K.lo f args H own out (by show (if f = f then _ else _) = _; rw [if_pos rfl]; exact h) G w vals g hH ho har
  · cases hbad : K.bad f with
    | true => rw [hbad] at h; cases h
    | false =>
    rw [hbad] at h
    simp only [cond_false] at h
    unfold fzOut at h
    cases hz : K.fz f with
    | false => rw [hz] at h; exact body_step hP n hex f args H own out h G w vals g hH ho har
    | true =>
      rw [hz] at h
      simp only [cond_true] at h
      split at h
      case h_2 => cases h
      rename_i x H1 own1 hb
      cases hs : fzSafe K.lo H1 x with
      | false => rw [hs] at h; cases h
      | true =>
      rw [hs] at h
      injection h with h; subst h
      refine (body_step hP n hex f args H own _ hb G w vals g hH ho har).mono ?_
      rintro e w' ⟨v, G', rfl, hd⟩
      obtain ⟨G2, h2⟩ := fz_done hd
      exact ⟨v, G2, rfl, h2⟩

theorem dn_sound {K : Know} {n : Nat} (h : ∀ m, CallSound P (cN P (K.up m) n)) : CallSound P (dN P K n) := by
  intro f args H own out hc
  change cond (Nat.ble K.lo H.length) (callK P n (K.up H.length) f args H own) none = some out at hc
  cases hb : Nat.ble K.lo H.length with
  | false => rw [hb] at hc; cases hc
  | true => rw [hb] at hc; exact h H.length f args H own out hc

/-- ALL OF IT: what the machine says of a call, Go's program does. -/
theorem machine_sound (hP : POk P) : ∀ (n : Nat) (K : Know), ShortSound P K → ShortLocal K → CallSound P (cN P K n) ∧ CodeSound P (exec P K n) := by
  intro n
  induction n using Nat.strongRecOn with
  | _ n ih =>
    intro K hS hL
    cases n with
    | zero => exact ⟨fun f args H own out h => (by cases h), fun vars nt c st e st' h => (by cases h)⟩
    | succ n =>
      have hup : ∀ m, CallSound P (cN P (K.up m) n) := fun m => (ih n (Nat.lt_succ_self n) (K.up m) hS hL).1
      have hn := ih n (Nat.lt_succ_self n) K hS hL
      have hl : ∀ m, CallLock (cN P (K.up m) n) ∧ CallFill (cN P (K.up m) n) := fun m => (local_all n (K.up m) hL).1
      exact ⟨call_step hP hS n hn.2, code_step hP n hn.1 (dn_sound hup) ⟨full_lock fun m => (hl m).1, dn_fill fun m => (hl m).2⟩ (local_all n K hL).1.1 fun m hm => (ih m hm K hS hL).2⟩

end
end Go.Proofs.YtklecelgejlihaaGreatDoor.Am

/- The abstract machine is right, eighteenth part: two operations that have nothing to do with each other change places. -/
namespace Go.Proofs.YtklecelgejlihaaGreatDoor.Am
set_option linter.unusedVariables false
set_option linter.unusedSimpArgs false
open Go.RowKit

section
variable {P : Program} {call : CallA} {ops : List Oper} {nt base : Nat} {lt : Option WS} {ws : WS} {mx : Bool}

def coreW (call : CallA) (P : Program) (pre : Option (Nat × Option WS)) (ops : List Oper) (o : Oper) (env : List (Nat × AV)) (H : List (Option Blk)) (own : List Loc) : Option Res :=
  match wantedA ops env o with
  | some true => coreP call P pre ops o env H own
  | some false => some ⟨.tup [], H, own, false⟩
  | none => none
def putEnv (env : List (Nat × AV)) (dst : Option Nat) (v : AV) : List (Nat × AV) :=
  match dst with
  | none => env
  | some d => (d, v) :: env
def putOwn (own : List Loc) (gives : Bool) (dst : Option Nat) : List Loc :=
  match dst with
  | none => own
  | some d => cond gives (give own (.slot d)) (drop own (.slot d))

theorem put_iff {r : Res} {env : List (Nat × AV)} {dst : Option Nat} {st : St} : r.put nt env dst = some st ↔ (∀ d, dst = some d → d < nt) ∧ st = ⟨putEnv env dst r.val, r.H, putOwn r.own r.gives dst⟩ := by
  cases dst with
  | none => simp only [Res.put, putEnv, putOwn, Option.some.injEq]; exact ⟨fun h => ⟨fun d e => (by cases e), h.symm⟩, fun h => h.2.symm⟩
  | some d =>
    simp only [Res.put, putEnv, putOwn]
    constructor
    · intro h
      split at h
      · rename_i hl; injection h with h; exact ⟨fun q e => by injection e with e; omega, h.symm⟩
      · cases h
    · rintro ⟨h1, h2⟩
      rw [if_pos (h1 d rfl), h2]

theorem stepW_iff {pre : Option (Nat × Option WS)} {o : Oper} {st st' : St} : stepW call P nt pre ops o st = some st' ↔ ∃ r, coreW call P pre ops o st.env st.H st.own = some r ∧ r.put nt st.env o.dst = some st' := by
  unfold stepW coreW
  cases hw : wantedA ops st.env o with
  | none => exact ⟨fun h => (by cases h), fun ⟨r, hr, h⟩ => (by cases hr)⟩
  | some b =>
    cases b with
    | false => exact ⟨fun h => ⟨_, rfl, h⟩, fun ⟨r, hr, h⟩ => by injection hr with hr; rw [← hr] at h; exact h⟩
    | true =>
      simp only
      unfold stepOp
      constructor
      · intro h
        split at h
        · rename_i r hr; exact ⟨r, hr, h⟩
        · cases h
      · intro h
        obtain ⟨r, hr, h⟩ := h
        rw [hr]; exact h

theorem wanted_env {env env' : List (Nat × AV)} {o : Oper} (h : ∀ s ∈ reads ops o, look env s = look env' s) : wantedA ops env o = wantedA ops env' o := by
  unfold wantedA
  split
  · rfl
  · rename_i j want hg
    split
    · rename_i d op ty pos after guard hj
      rw [h d (by unfold reads guardSlot; rw [hg]; simp only; rw [hj]; simp)]
    · rfl
theorem newAt_env {env env' : List (Nat × AV)} {H : List (Option Blk)} {own : List Loc} {o : Oper} {id : Nat} (h : ∀ s ∈ opSlots o, look env s = look env' s) : newAt P o env H own id = newAt P o env' H own id := by
  unfold newAt
  split
  · split
    · rfl
    · rename_i e x hx
      rw [evalO_env (env := env) (env' := env') fun s hs => h s (by unfold opSlots; exact List.mem_filterMap.2 ⟨x, by rw [hx]; simp [Op.operands], by rw [hs]⟩)]
    · rfl
  · rfl
theorem newSl_env {e : TypeId} {env env' : List (Nat × AV)} {H : List (Option Blk)} {own : List Loc} {o : Oper} (h : ∀ s ∈ opSlots o, look env s = look env' s) : newSl P e o.op env H own = newSl P e o.op env' H own := by
  have hx : ∀ x ∈ o.op.operands.toList, evalO env x = evalO env' x := fun x hm => evalO_env fun s e => h s (by unfold opSlots; exact List.mem_filterMap.2 ⟨x, hm, by rw [e]⟩)
  unfold newSl
  split
  · rename_i t l c e1
    rw [hx l (by rw [e1]; simp [Op.operands]), hx c (by rw [e1]; simp [Op.operands])]
  · rename_i args argTypes e1
    split
    · rename_i s x ts tx hargs htys
      have ea : args = #[s, x] := by apply Array.ext'; simpa using hargs
      rw [hx s (by rw [e1, ea]; simp [Op.operands, Call.operands]), hx x (by rw [e1, ea]; simp [Op.operands, Call.operands])]
    · rfl
  · rfl
theorem okSl_env {lo : Nat} {env env' : List (Nat × AV)} {o : Oper} (h : ∀ s ∈ opSlots o, look env s = look env' s) : okSl lo o.op env = okSl lo o.op env' := by
  unfold okSl
  split
  · rename_i args at_ e1
    split
    · rename_i x r ha
      have : evalO env x = evalO env' x := evalO_env fun s hs => h s (List.mem_filterMap.2 ⟨x, by rw [e1]; simp [Op.operands, Call.operands, ha], by rw [hs]⟩)
      rw [this]
    · rfl
  · rfl
theorem coreS_env {env env' : List (Nat × AV)} {H : List (Option Blk)} {own : List Loc} {o : Oper} (h : ∀ s ∈ opSlots o, look env s = look env' s) : coreS call P ops o env H own = coreS call P ops o env' H own := by
  unfold coreS
  split
  · rw [okSl_env h, newSl_env h]
  · cases isMapO o with
    | true => exact coreM_env h
    | false => exact core_env h
theorem newSl_own {e : TypeId} {op : Op} {env : List (Nat × AV)} {H : List (Option Blk)} {own : List Loc} {r : Res} (h : newSl P e op env H own = some r) : r.own = own ∧ ∀ own', newSl P e op env H own' = some ⟨r.val, r.H, own', r.gives⟩ := by
  unfold newSl at *
  split at h
  · split at h
    · split at h
      · split at h
        · rename_i hc
          injection h with h; subst h
          exact ⟨rfl, fun own' => by simp only [if_pos hc]⟩
        · cases h
      · cases h
    · cases h
  · split at h
    · split at h
      · split at h
        · split at h
          · split at h
            · rename_i hc
              injection h with h; subst h
              exact ⟨rfl, fun own' => by simp only [if_pos hc]⟩
            · cases h
          · split at h
            · rename_i hb
              split at h
              · rename_i hc
                injection h with h; subst h
                exact ⟨rfl, fun own' => by simp only [hb, if_pos hc]⟩
              · cases h
            · cases h
          · cases h
        · cases h
      · cases h
    · cases h
  · cases h
theorem slElem_op {o : Oper} {e : TypeId} (h : slElem P o = some e) : slOp o = true := by
  unfold slElem at h
  unfold slOp
  split at h
  · rename_i t ht
    cases hm : mutT t o.dst with
    | true => rfl
    | false => rw [hm] at h; cases h
  · cases h
theorem slOp_heap {o : Oper} (h : slOp o = true) : heapOp o = true := by
  unfold heapOp
  split <;> first | rfl | (rw [h]; rfl)
theorem coreS_core {o : Oper} (h : heapOp o = false) : slElem P o = none := by
  cases hs : slElem P o with
  | none => rfl
  | some e => rw [slOp_heap (slElem_op hs)] at h; cases h
theorem coreS_own {env : List (Nat × AV)} {H : List (Option Blk)} {own : List Loc} {o : Oper} {r : Res} (he : ends ops o = false) (h : coreS call P ops o env H own = some r) :
    r.own = own ∧ ∀ own', coreS call P ops o env H own' = some ⟨r.val, r.H, own', r.gives⟩ := by
  unfold coreS at *
  split at h
  · cases hk : okSl call.lo o.op env with
    | true => rw [hk] at h; exact newSl_own h
    | false => rw [hk] at h; cases h
  · cases hm : isMapO o with
    | true => rw [hm] at h; simp only [cond_true] at h ⊢; exact coreM_own h
    | false => rw [hm] at h; simp only [cond_false] at h ⊢; exact core_own he h
theorem coreS_frame {S : Nat → Prop} {env : List (Nat × AV)} {H : List (Option Blk)} {own own' : List Loc} {o : Oper} {r : Res} (hS : ∀ s, S s → s ∉ opSlots o) (hl : Like S own own') (h : coreS call P ops o env H own = some r) :
    ∃ oo, coreS call P ops o env H own' = some ⟨r.val, r.H, oo, r.gives⟩ ∧ Like S r.own oo ∧ ∀ s, S s → (Loc.slot s ∈ r.own ↔ Loc.slot s ∈ own) ∧ (Loc.slot s ∈ oo ↔ Loc.slot s ∈ own') := by
  unfold coreS at *
  split at h
  · cases hk : okSl call.lo o.op env with
    | true =>
      rw [hk] at h
      obtain ⟨h1, h2⟩ := newSl_own h
      exact ⟨own', h2 own', by rw [h1]; exact hl, fun s _ => ⟨by rw [h1], Iff.rfl⟩⟩
    | false => rw [hk] at h; cases h
  · cases hm : isMapO o with
    | true =>
      rw [hm] at h
      simp only [cond_true] at h ⊢
      obtain ⟨h1, h2⟩ := coreM_own h
      exact ⟨own', h2 own', by rw [h1]; exact hl, fun s _ => ⟨by rw [h1], Iff.rfl⟩⟩
    | false => rw [hm] at h; simp only [cond_false] at h ⊢; exact core_frame hS hl h
theorem coreP_env {pre : Option (Nat × Option WS)} {env env' : List (Nat × AV)} {H : List (Option Blk)} {own : List Loc} {o : Oper} (h : ∀ s ∈ opSlots o, look env s = look env' s) : coreP call P pre ops o env H own = coreP call P pre ops o env' H own := by
  unfold coreP
  rw [coreS_env h]
  split
  · rfl
  · rename_i b lt
    have hl : lateNo b lt ops o env = lateNo b lt ops o env' := by
      unfold lateNo
      cases lt with
      | none => rfl
      | some ws =>
      have hx : ∀ x ∈ o.op.operands.toList, evalO env x = evalO env' x := fun x hm => evalO_env fun s e => h s (by unfold opSlots; exact List.mem_filterMap.2 ⟨x, hm, by rw [e]⟩)
      have : lateOk ops b ws o env = lateOk ops b ws o env' := by
        unfold lateOk
        split
        · rename_i t a e; rw [hx a (by rw [e]; simp [Op.operands])]
        · rename_i t a x y e; rw [hx a (by rw [e]; simp [Op.operands])]
        · rename_i t a x e; rw [hx a (by rw [e]; simp [Op.operands])]
        · rfl
      show (!(lateOk ops b ws o env)) = !(lateOk ops b ws o env')
      rw [this]
    rw [hl]
    congr 1
    split
    · split
      · exact newAt_env h
      · rfl
    · rfl
theorem coreW_env {pre : Option (Nat × Option WS)} {env env' : List (Nat × AV)} {H : List (Option Blk)} {own : List Loc} {o : Oper} (h : ∀ s ∈ reads ops o, look env s = look env' s) : coreW call P pre ops o env H own = coreW call P pre ops o env' H own := by
  unfold coreW
  rw [wanted_env h, coreP_env fun s hs => h s (by unfold reads; exact List.mem_append_right _ hs)]
theorem newAt_some {env : List (Nat × AV)} {H : List (Option Blk)} {own : List Loc} {o : Oper} {id : Nat} {r : Res} (h : newAt P o env H own id = some r) :
    ∃ k, H[id]? = some none ∧ r = ⟨.ptr id 0, H.set id (some k), own, false⟩ ∧ ∀ H' own', H'[id]? = some none → newAt P o env H' own' id = some ⟨.ptr id 0, H'.set id (some k), own', false⟩ := by
  unfold newAt at h ⊢
  split at h
  case h_2 => cases h
  rename_i hh
  split at h
  · split at h
    · rename_i z hz
      split at h
      · rename_i hp
        injection h with h
        exact ⟨_, hh, h.symm, fun H' own' e => by rw [e]; simp only [if_pos hp]⟩
      · cases h
    · cases h
  · split at h
    · rename_i v hv
      split at h
      · rename_i hp
        injection h with h
        exact ⟨_, hh, h.symm, fun H' own' e => by rw [e]; simp only [if_pos hp]⟩
      · cases h
    · cases h
  · cases h
/-- With places kept: an operation that makes a block, or 'core'. -/
theorem coreP_cases {env : List (Nat × AV)} {H : List (Option Blk)} {own : List Loc} {o : Oper} {r : Res} (h : coreP call P (some (base, lt)) ops o env H own = some r) :
    (allocOp o = false ∧ coreS call P ops o env H own = some r ∧ (∀ ws, lt = some ws → lateOk ops base ws o env = true) ∧ ∀ H' own', coreP call P (some (base, lt)) ops o env H' own' = coreS call P ops o env H' own') ∨
    (allocOp o = true ∧ ∃ d k, o.dst = some d ∧ rank ops d = some k ∧ newAt P o env H own (base + k) = some r ∧ ∀ H' own', coreP call P (some (base, lt)) ops o env H' own' = newAt P o env H' own' (base + k)) := by
  unfold coreP at h ⊢
  cases ha : allocOp o with
  | false =>
    rw [ha] at h
    simp only [cond_false] at h ⊢
    cases hl : (lateNo base lt ops o env) with
    | true => rw [hl] at h; cases h
    | false =>
      rw [hl] at h
      refine .inl ⟨trivial, h, fun ws e => ?_, fun _ _ => rfl⟩
      rw [e] at hl
      have hl : (!(lateOk ops base ws o env)) = false := hl
      simpa using hl
  | true =>
    rw [ha] at h
    simp only [cond_true] at h ⊢
    split at h
    · rename_i d hd
      split at h
      · rename_i k hk
        exact .inr ⟨trivial, d, k, hd, hk, h, fun _ _ => by simp only [hk]⟩
      · cases h
    · cases h
theorem coreW_own {env : List (Nat × AV)} {H : List (Option Blk)} {own : List Loc} {o : Oper} {r : Res} (he : ends ops o = false) (h : coreW call P (some (base, lt)) ops o env H own = some r) :
    r.own = own ∧ ∀ own', coreW call P (some (base, lt)) ops o env H own' = some ⟨r.val, r.H, own', r.gives⟩ := by
  unfold coreW at *
  split at h
  · rcases coreP_cases h with ⟨_, h1, hlate, h2⟩ | ⟨_, d, k, _, _, h1, h2⟩
    · obtain ⟨q1, q2⟩ := coreS_own he h1
      exact ⟨q1, fun own' => by simp only [h2]; exact q2 own'⟩
    · obtain ⟨b, q1, q2, q3⟩ := newAt_some h1
      subst q2
      exact ⟨rfl, fun own' => by simp only [h2]; exact q3 H own' q1⟩
  · injection h with h; subst h; exact ⟨rfl, fun _ => rfl⟩
  · cases h
theorem coreW_frame {S : Nat → Prop} {env : List (Nat × AV)} {H : List (Option Blk)} {own own' : List Loc} {o : Oper} {r : Res} (hS : ∀ s, S s → s ∉ reads ops o) (hl : Like S own own') (h : coreW call P (some (base, lt)) ops o env H own = some r) :
    ∃ oo, coreW call P (some (base, lt)) ops o env H own' = some ⟨r.val, r.H, oo, r.gives⟩ ∧ Like S r.own oo ∧ ∀ s, S s → (Loc.slot s ∈ r.own ↔ Loc.slot s ∈ own) ∧ (Loc.slot s ∈ oo ↔ Loc.slot s ∈ own') := by
  unfold coreW at *
  split at h
  · rcases coreP_cases h with ⟨_, h1, hlate, h2⟩ | ⟨_, d, k, _, _, h1, h2⟩
    · obtain ⟨oo, q1, q2, q3⟩ := coreS_frame (S := S) (fun s hs hm => hS s hs (by unfold reads; exact List.mem_append_right _ hm)) hl h1
      exact ⟨oo, by simp only [h2]; exact q1, q2, q3⟩
    · obtain ⟨b, q1, q2, q3⟩ := newAt_some h1
      subst q2
      exact ⟨own', by simp only [h2]; exact q3 H own' q1, hl, fun s _ => ⟨Iff.rfl, Iff.rfl⟩⟩
  · injection h with h; subst h; exact ⟨own', rfl, hl, fun s _ => ⟨Iff.rfl, Iff.rfl⟩⟩
  · cases h
/-- A block that an operation reads. -/
def Asks (env : List (Nat × AV)) (o : Oper) (id : Nat) : Prop := (∃ t a off, o.op = .load t a ∧ evalO env a = some (.ptr id off)) ∨ (isMapR o = true ∧ ∃ x a, o.op.operands.toList.head? = some x ∧ evalO env x = some a ∧ mapAsk a = some id)
theorem core_load_live {env : List (Nat × AV)} {H : List (Option Blk)} {own : List Loc} {o : Oper} {r : Res} {t : TypeId} {a : Operand} {id off : Nat} (e1 : o.op = .load t a) (e2 : evalO env a = some (.ptr id off)) (h : core call P ops o env H own = some r) : Live H id := by
  obtain ⟨dst, op, ty, pos, after, guard⟩ := o
  simp only at e1
  subst e1
  simp only [core, e2] at h
  cases hl : loadA P H t (.ptr id off) with
  | none => rw [hl] at h; cases h
  | some x =>
    unfold loadA at hl
    split at hl
    · simp only at hl
      split at hl
      · rename_i cs hr
        unfold readCells at hr
        split at hr
        · rename_i b hb
          exact ⟨b, hb⟩
        · cases hr
      · cases hl
    · cases hl
theorem coreW_heap {env : List (Nat × AV)} {H : List (Option Blk)} {own : List Loc} {o : Oper} {r : Res} (hh : heapOp o = false) (ha : allocOp o = false) (h : coreW call P (some (base, lt)) ops o env H own = some r) :
    r.H = H ∧ ∀ H', (∀ id, Asks env o id → Live H id → H'[id]? = H[id]?) → coreW call P (some (base, lt)) ops o env H' own = some ⟨r.val, H', r.own, r.gives⟩ := by
  unfold coreW at *
  split at h
  · rcases coreP_cases h with ⟨_, h1, hlate, h2⟩ | ⟨h1, _⟩
    · have hn := coreS_core (P := P) hh
      have hw : isMapW o = false := by
        cases hw : isMapW o with
        | false => rfl
        | true =>
          obtain ⟨dst, op, ty, pos, after, guard⟩ := o
          unfold isMapW at hw
          split at hw <;> first | (cases hw; done) | (rename_i e; simp only at e; subst e; simp [heapOp, isMapW] at hh)
      cases hm : isMapO o with
      | true =>
        have hcs : ∀ H' own', coreS call P ops o env H' own' = coreM call.lo P o env H' own' := fun H' own' => by unfold coreS; rw [hn]; simp only [hm, cond_true]
        rw [hcs] at h1
        have h2 : ∀ H' own', coreP call P (some (base, lt)) ops o env H' own' = coreM call.lo P o env H' own' := fun H' own' => (h2 H' own').trans (hcs H' own')
        obtain ⟨q1, q2⟩ := coreM_heap hw h1
        have hmr : isMapR o = true := by unfold isMapO at hm; rw [hw] at hm; exact hm
        exact ⟨q1, fun H' hyp => by simp only [h2]; exact q2 H' fun x a id hx e1 e2 hl => hyp id (.inr ⟨hmr, x, a, hx, e1, e2⟩) hl⟩
      | false =>
      have hcs : ∀ H' own', coreS call P ops o env H' own' = core call P ops o env H' own' := fun H' own' => by unfold coreS; rw [hn]; simp only [hm, cond_false]
      rw [hcs] at h1
      have h2 : ∀ H' own', coreP call P (some (base, lt)) ops o env H' own' = core call P ops o env H' own' := fun H' own' => (h2 H' own').trans (hcs H' own')
      obtain ⟨q1, q2⟩ := core_heap hh ha h1
      exact ⟨q1, fun H' hyp => by simp only [h2]; exact q2 H' fun t a id off e1 e2 => hyp id (.inl ⟨t, a, off, e1, e2⟩) (core_load_live e1 e2 h1)⟩
    · rw [ha] at h1; cases h1
  · injection h with h; subst h; exact ⟨rfl, fun _ _ => rfl⟩
  · cases h
theorem coreW_alloc {env : List (Nat × AV)} {H : List (Option Blk)} {own : List Loc} {o : Oper} {r : Res} (ha : allocOp o = true) (h : coreW call P (some (base, lt)) ops o env H own = some r) :
    (∃ d q k, o.dst = some d ∧ rank ops d = some q ∧ H[base + q]? = some none ∧ r.H = H.set (base + q) (some k) ∧ ∀ H', H'[base + q]? = some none → coreW call P (some (base, lt)) ops o env H' own = some ⟨r.val, H'.set (base + q) (some k), r.own, r.gives⟩) ∨
    (r.H = H ∧ ∀ H', coreW call P (some (base, lt)) ops o env H' own = some ⟨r.val, H', r.own, r.gives⟩) := by
  unfold coreW at *
  split at h
  · rcases coreP_cases h with ⟨h1, _⟩ | ⟨_, d, k, e1, e2, h1, h2⟩
    · rw [ha] at h1; cases h1
    · obtain ⟨b, q1, q2, q3⟩ := newAt_some h1
      subst q2
      exact .inl ⟨d, k, b, e1, e2, q1, rfl, fun H' e => by simp only [h2]; exact q3 H' own e⟩
  · injection h with h; subst h; exact .inr ⟨rfl, fun _ => rfl⟩
  · cases h
theorem rank_inj : ∀ (l : List Oper) {d d' k : Nat}, rank l d = some k → rank l d' = some k → d = d'
  | [], _, _, _, h, _ => by cases h
  | o :: r, d, d', k, h, h' => by
    simp only [rank] at h h'
    cases ha : allocOp o with
    | false => rw [ha] at h h'; exact rank_inj r h h'
    | true =>
      rw [ha] at h h'
      simp only [cond_true] at h h'
      cases h1 : o.dst == some d with
      | true =>
        rw [h1] at h
        injection h with h; subst h
        cases h2 : o.dst == some d' with
        | true =>
          rw [beq_iff_eq] at h1 h2
          rw [h1] at h2; injection h2
        | false =>
          rw [h2] at h'
          simp only [cond_false] at h'
          cases hr : rank r d' with
          | none => rw [hr] at h'; cases h'
          | some q => rw [hr] at h'; simp at h'
      | false =>
        rw [h1] at h
        simp only [cond_false] at h
        cases h2 : o.dst == some d' with
        | true =>
          rw [h2] at h'
          injection h' with h'; subst h'
          cases hr : rank r d with
          | none => rw [hr] at h; cases h
          | some q => rw [hr] at h; simp at h
        | false =>
          rw [h2] at h'
          simp only [cond_false] at h'
          cases hr : rank r d with
          | none => rw [hr] at h; cases h
          | some q =>
            rw [hr] at h
            cases hr' : rank r d' with
            | none => rw [hr'] at h'; cases h'
            | some q' =>
              rw [hr'] at h'
              simp only [Option.map_some, Option.some.injEq] at h h'
              exact rank_inj r hr (by rw [hr']; congr 1; omega)
theorem coreW_late {env : List (Nat × AV)} {H : List (Option Blk)} {own : List Loc} {o : Oper} {r : Res} (hw : wantedA ops env o = some true) (h : coreW call P (some (base, lt)) ops o env H own = some r) (hlt : lt = some ws) (ha : allocOp o = false) : lateOk ops base ws o env = true := by
  unfold coreW at h
  rw [hw] at h
  rcases coreP_cases h with ⟨_, h1, hlate, h2⟩ | ⟨h1, _⟩
  · exact hlate ws hlt
  · rw [ha] at h1; cases h1
/-- A store, of a block of the region's own. -/
theorem coreW_store {env : List (Nat × AV)} {H : List (Option Blk)} {own : List Loc} {o : Oper} {r : Res} (hs : isStore o = true) (hlt : lt = some ws) (h : coreW call P (some (base, lt)) ops o env H own = some r) :
    (∀ id, (Nat.blt id base && !(ws.any fun p => stSlot o == some p.1 && Nat.beq id p.2)) = true → r.H[id]? = H[id]?) ∧ ∀ id, Live H id → Live r.H id := by
  unfold coreW at h
  split at h
  · rcases coreP_cases h with ⟨_, h1, hlate, h2⟩ | ⟨h1, _⟩
    · have hl := hlate ws hlt
      obtain ⟨dst, op, ty, pos, after, guard⟩ := o
      cases op with
      | store t a x =>
        have hn : slElem P { dst := dst, op := .store t a x, type := ty, pos := pos, after := after, guard := guard } = none := by unfold slElem slTy; rfl
        unfold coreS at h1
        rw [hn] at h1
        simp only [core] at h1
        split at h1
        · rename_i id off v e1 e2
          split at h1
          · rename_i H' hst
            injection h1 with h1; subst h1
            simp only [lateOk, e1] at hl
            have hge : ∀ j, (Nat.blt j base && !(ws.any fun p => stSlot { dst := dst, op := Op.store t a x, type := ty, pos := pos, after := after, guard := guard } == some p.1 && Nat.beq j p.2)) = true → j ≠ id := by
              rintro j hj rfl
              rw [Bool.and_eq_true] at hj
              rw [Bool.or_eq_true] at hl
              rcases hl with hl | hl
              · have h1 := Nat.ble_eq.mp hl
                have h2 := Nat.blt_eq.mp hj.1
                omega
              · rw [hl] at hj; exact absurd hj.2 (by simp)
            simp only
            replace hst := (storeL_some hst).2
            unfold storeA at hst
            split at hst
            · split at hst
              · split at hst
                · rename_i p q id' off' n' e3 e4 oo b e5 e6
                  injection e3 with e3 e7; subst e3; subst e7
                  injection hst with hst; subst hst
                  exact ⟨fun j hj => by rw [List.getElem?_set_ne (fun e => hge j hj e.symm)], fun j hj => hj.set _ _⟩
                · cases hst
              · cases hst
            · cases hst
          · cases h1
        · cases h1
      | _ => cases hs
    · unfold isStore at hs
      unfold allocOp at h1
      split at hs
      · rename_i e; rw [e] at h1; cases h1
      · cases hs
  · injection h with h; subst h; exact ⟨fun _ _ => rfl, fun _ h => h⟩
  · cases h
/-- What lives goes on living where nothing is called or stored. -/
theorem live_step {env : List (Nat × AV)} {H : List (Option Blk)} {own : List Loc} {o : Oper} {r : Res} (hh : heapOp o = false) (h : coreW call P (some (base, lt)) ops o env H own = some r) {id : Nat} (hl : Live H id) : r.H[id]? = H[id]? := by
  cases ha : allocOp o with
  | false => rw [(coreW_heap hh ha h).1]
  | true =>
    rcases coreW_alloc ha h with ⟨d, q, k, _, _, e, e', _⟩ | ⟨e, _⟩
    · rw [e', List.getElem?_set_ne]
      rintro rfl
      obtain ⟨b, hb⟩ := hl
      rw [e] at hb; cases hb
    · rw [e]
theorem mem_putOwn {own : List Loc} {g : Bool} {dst : Option Nat} {l : Loc} : l ∈ putOwn own g dst ↔ (∃ s, dst = some s ∧ l = .slot s ∧ g = true) ∨ (l ∈ own ∧ ∀ s, dst = some s → l ≠ .slot s) := by
  cases dst with
  | none => simp [putOwn]
  | some d =>
    cases g with
    | true =>
      show l ∈ give own _ ↔ _
      rw [mem_give]
      constructor
      · rintro (h | ⟨h1, h2⟩)
        · exact .inl ⟨d, rfl, h, rfl⟩
        · exact .inr ⟨h1, fun s e => by injection e with e; subst e; exact h2⟩
      · rintro (⟨s, e, h, _⟩ | ⟨h1, h2⟩)
        · injection e with e; subst e; exact .inl h
        · exact .inr ⟨h1, h2 d rfl⟩
    | false =>
      show l ∈ drop own _ ↔ _
      rw [mem_drop]
      constructor
      · rintro ⟨h1, h2⟩
        exact .inr ⟨h1, fun s e => by injection e with e; subst e; exact h2⟩
      · rintro (⟨s, e, h, q⟩ | ⟨h1, h2⟩)
        · cases q
        · exact ⟨h1, h2 d rfl⟩
theorem look_putEnv {env : List (Nat × AV)} {dst : Option Nat} {v : AV} (s : Nat) : look (putEnv env dst v) s = if dst = some s then v else look env s := by
  cases dst with
  | none => simp [putEnv]
  | some d =>
    simp only [putEnv, look_cons]
    by_cases h : s = d
    · subst h; simp
    · rw [if_neg h, if_neg (by intro e; injection e with e; exact h e.symm)]

/-- Two operations that have nothing to do with each other. -/
structure Unord (ops : List Oper) (lt : Option WS) (mx : Bool) (x i : Oper) : Prop where
  r1 : ∀ d, x.dst = some d → d ∉ reads ops i ∧ i.dst ≠ some d
  r2 : ∀ d, i.dst = some d → d ∉ reads ops x
  e : ends ops x = false ∨ ends ops i = false ∨ mvCall x i = true
  h1 : heapOp x = true → memOp i = false ∨ ((∃ ws, lt = some ws) ∧ isStore x = true ∧ (isLoad i = true ∧ lateD ops i.dst = true ∧ ∀ s, stSlot x = some s → lateP ops i.dst s = true)) ∨ ((mx = true ∧ mixAt ops x = true) ∧ isCallV x = true ∧ (isLoad i = true ∨ allocOp i = true))
  h2 : heapOp i = true → memOp x = false ∨ ((∃ ws, lt = some ws) ∧ isStore i = true ∧ (isLoad x = true ∧ lateD ops x.dst = true ∧ ∀ s, stSlot i = some s → lateP ops x.dst s = true)) ∨ ((mx = true ∧ mixAt ops i = true) ∧ isCallV i = true ∧ isLoad x = true)

structure EqSt (s t : St) : Prop where
  env : ∀ k, look s.env k = look t.env k
  H : s.H = t.H
  own : ∀ l, l ∈ s.own ↔ l ∈ t.own

theorem memOp_parts {o : Oper} (h : memOp o = false) : heapOp o = false ∧ allocOp o = false ∧ ∀ t a, o.op ≠ .load t a := by
  unfold memOp at h
  rw [Bool.or_eq_false_iff, Bool.or_eq_false_iff] at h
  refine ⟨h.1.1, ?_, ?_⟩
  · unfold allocOp
    split
    · rename_i e; rw [e] at h; exact absurd h.2 (by simp)
    · rename_i e; rw [e] at h; exact absurd h.2 (by simp)
    · rfl
  · intro t a e; rw [e] at h; exact absurd h.2 (by simp)
theorem noAsks {env : List (Nat × AV)} {o : Oper} {id : Nat} (h : memOp o = false) : ¬ Asks env o id := by
  rintro (⟨t, a, off, e, _⟩ | ⟨hm, _⟩)
  · exact (memOp_parts h).2.2 t a e
  · unfold memOp at h
    rw [hm] at h
    simp at h
theorem asks_env {env env' : List (Nat × AV)} {o : Oper} {id : Nat} (h : ∀ s ∈ opSlots o, look env s = look env' s) : Asks env o id ↔ Asks env' o id := by
  have hx : ∀ x ∈ o.op.operands.toList, evalO env x = evalO env' x := fun x hm => evalO_env fun s e => h s (by unfold opSlots; exact List.mem_filterMap.2 ⟨x, hm, by rw [e]⟩)
  unfold Asks
  constructor
  · rintro (⟨t, a, off, e1, e2⟩ | ⟨e1, x, a, e2, e3, e4⟩)
    · exact .inl ⟨t, a, off, e1, by rw [← hx a (by rw [e1]; simp [Op.operands])]; exact e2⟩
    · exact .inr ⟨e1, x, a, e2, by rw [← hx x (List.mem_of_mem_head? e2)]; exact e3, e4⟩
  · rintro (⟨t, a, off, e1, e2⟩ | ⟨e1, x, a, e2, e3, e4⟩)
    · exact .inl ⟨t, a, off, e1, by rw [hx a (by rw [e1]; simp [Op.operands])]; exact e2⟩
    · exact .inr ⟨e1, x, a, e2, by rw [hx x (List.mem_of_mem_head? e2)]; exact e3, e4⟩
theorem callV_map {o : Oper} (h : isCallV o = true) : isMapO o = false := by
  obtain ⟨dst, op, ty, pos, after, guard⟩ := o
  unfold isCallV at h
  split at h
  · rename_i e; simp only at e; subst e; rfl
  · rename_i e; simp only at e; subst e; rfl
  · cases h
theorem alloc_mem {o : Oper} (h : allocOp o = true) : memOp o = true := by
  cases hm : memOp o with
  | true => rfl
  | false => rw [(memOp_parts hm).2.1] at h; cases h

theorem callV_parts {ops : List Oper} {o : Oper} (h : isCallV o = true) : allocOp o = false ∧ slElem P o = none ∧ ∀ b ws env, lateOk ops b ws o env = true := by
  obtain ⟨dst, op, ty, pos, after, guard⟩ := o
  unfold isCallV at h
  simp only at h
  split at h
  · exact ⟨rfl, rfl, fun _ _ _ => rfl⟩
  · exact ⟨rfl, rfl, fun _ _ _ => rfl⟩
  · cases h
theorem core_call (hl : FullLock call) {env : List (Nat × AV)} {H : List (Option Blk)} {own : List Loc} {o : Oper} {r : Res} (hc : isCallV o = true) (h : core call P ops o env H own = some r) : Lock H.length H r.H := by
  have key : ∀ f args, callA call P H own f args = some r → Lock H.length H r.H := by
    intro f args h
    unfold callA at h
    cases hb : hasBody P f with
    | false => rw [hb] at h; cases h
    | true =>
      rw [hb] at h
      simp only [cond_true] at h
      split at h
      · rename_i x H' own' hq
        injection h with h; subst h
        exact hl f args H _ x H' own' hq
      · cases h
  obtain ⟨dst, op, ty, pos, after, guard⟩ := o
  unfold isCallV at hc
  simp only at hc
  split at hc
  · unfold core at h
    simp only at h
    split at h
    · exact key _ _ h
    · exact key _ _ h
    · cases h
  · unfold core at h
    simp only at h
    split at h
    · split at h
      · exact key _ _ h
      · cases h
    · cases h
  · cases hc
theorem core_callLen (hl : CallLen call) {env : List (Nat × AV)} {H : List (Option Blk)} {own : List Loc} {o : Oper} {r : Res} (hc : isCallV o = true) (h : core call P ops o env H own = some r) : H.length ≤ r.H.length := by
  have key : ∀ f args, callA call P H own f args = some r → H.length ≤ r.H.length := by
    intro f args h
    unfold callA at h
    cases hb : hasBody P f with
    | false => rw [hb] at h; cases h
    | true =>
      rw [hb] at h
      simp only [cond_true] at h
      split at h
      · rename_i x H' own' hq
        injection h with h; subst h
        exact hl f args H _ x H' own' hq
      · cases h
  obtain ⟨dst, op, ty, pos, after, guard⟩ := o
  unfold isCallV at hc
  simp only at hc
  split at hc
  · unfold core at h
    simp only at h
    split at h
    · exact key _ _ h
    · exact key _ _ h
    · cases h
  · unfold core at h
    simp only at h
    split at h
    · split at h
      · exact key _ _ h
      · cases h
    · cases h
  · cases hc
theorem coreW_call (hl : FullLock call) (hf : CallFill call) {env : List (Nat × AV)} {H : List (Option Blk)} {own : List Loc} {o : Oper} {r : Res} (hc : isCallV o = true) (h : coreW call P (some (base, lt)) ops o env H own = some r) :
    Lock H.length H r.H ∧ ∀ p k, H[p]? = some none → coreW call P (some (base, lt)) ops o env (H.set p (some k)) own = some { r with H := r.H.set p (some k) } := by
  obtain ⟨c1, c2, c3⟩ := callV_parts (P := P) (ops := ops) hc
  have hP : ∀ H' own', coreP call P (some (base, lt)) ops o env H' own' = core call P ops o env H' own' := by
    intro H' own'
    unfold coreP coreS
    have c4 : lateNo base lt ops o env = false := by cases lt with | none => rfl | some ws => (show (!(lateOk ops base ws o env)) = false; rw [c3]; rfl)
    simp only [c1, c2, c4, callV_map hc, cond_false]
  unfold coreW at h ⊢
  split at h
  · rw [hP] at h
    refine ⟨core_call hl hc h, fun p k hp => ?_⟩
    rw [hP]
    exact (core_fill hf h hp k).2
  · injection h with h; subst h
    exact ⟨Lock.refl _ _, fun p k hp => rfl⟩
  · cases h
theorem rank_lt : ∀ (l : List Oper) {d q : Nat}, rank l d = some q → q < allocs l
  | [], d, q, h => by cases h
  | o :: l, d, q, h => by
    unfold rank at h
    unfold allocs
    cases ha : allocOp o with
    | true =>
      rw [ha] at h
      rw [List.filter_cons_of_pos ha]
      simp only [cond_true] at h
      cases hd : (o.dst == some d) with
      | true =>
        rw [hd] at h
        injection h with h; subst h
        simp
      | false =>
        rw [hd] at h
        simp only [cond_false] at h
        cases hr : rank l d with
        | none => rw [hr] at h; cases h
        | some q' =>
          rw [hr] at h
          simp only [Option.map_some, Option.some.injEq] at h
          have := rank_lt l hr
          unfold allocs at this
          rw [List.length_cons]; omega
    | false =>
      rw [ha] at h
      rw [List.filter_cons_of_neg (by rw [ha]; simp)]
      exact rank_lt l h
theorem put_len {nt : Nat} {r : Res} {env : List (Nat × AV)} {dst : Option Nat} {st' : St} (h : r.put nt env dst = some st') : st'.H = r.H := (put_fill h (p := 0) ⟨0, []⟩).1
theorem stepW_len (hl : CallLen call) {o : Oper} {st st' : St} (h : stepW call P nt (some (base, lt)) ops o st = some st') : st.H.length ≤ st'.H.length := by
  obtain ⟨r, hc, hp⟩ := stepW_iff.1 h
  rw [put_len hp]
  unfold coreW at hc
  split at hc
  · unfold coreP at hc
    simp only at hc
    cases ha : allocOp o with
    | true =>
      rw [ha] at hc
      simp only [cond_true] at hc
      split at hc
      · split at hc
        · obtain ⟨k, _, rfl, _⟩ := newAt_cases hc
          exact Nat.le_of_eq List.length_set.symm
        · cases hc
      · cases hc
    | false =>
      rw [ha] at hc
      simp only [cond_false] at hc
      cases hq : (lateNo base lt ops o st.env) with
      | true => rw [hq] at hc; cases hc
      | false =>
        rw [hq] at hc
        simp only [cond_false] at hc
        unfold coreS at hc
        split at hc
        · cases hk : okSl call.lo o.op st.env with
          | false => rw [hk] at hc; cases hc
          | true => rw [hk] at hc; exact (newSl_lock (lo := 0) (by
              unfold okSl
              split
              · split
                · split
                  · exact Nat.ble_eq.mpr (Nat.zero_le _)
                  · rfl
                · rfl
              · rfl) hc (Nat.zero_le _)).1
        · cases hm : isMapO o with
          | true => rw [hm] at hc; exact coreM_len hc
          | false =>
          rw [hm, cond_false] at hc
          cases hh : heapC o with
          | false => rw [(core_heapC hh ha hc).1]; exact Nat.le_refl _
          | true =>
            rcases heapC_cases hh with ⟨t, a, x, e1⟩ | ⟨f, args, at_, e1⟩ | ⟨rv, nm, args, at_, e1⟩
            · unfold core at hc
              rw [e1] at hc
              simp only at hc
              split at hc
              · split at hc
                · rename_i H' hs
                  injection hc with hc; subst hc
                  obtain ⟨h1, h2⟩ := storeL_some hs
                  unfold storeA at h2
                  split at h2
                  · split at h2
                    · split at h2
                      · injection h2 with h2; subst h2; exact Nat.le_of_eq List.length_set.symm
                      · cases h2
                    · cases h2
                  · cases h2
                · cases hc
              · cases hc
            · exact core_callLen hl (by unfold isCallV; rw [e1]) hc
            · exact core_callLen hl (by unfold isCallV; rw [e1]) hc
  · injection hc with hc; subst hc; exact Nat.le_refl _
  · cases hc
theorem callV_callA {env : List (Nat × AV)} {H : List (Option Blk)} {own : List Loc} {o : Oper} {r : Res} (hv : isCallV o = true) (h : core call P ops o env H own = some r) : ∃ f args, ∀ own', core call P ops o env H own' = callA call P H own' f args := by
  obtain ⟨dst, op, ty, pos, after, guard⟩ := o
  unfold isCallV at hv
  split at hv
  · rename_i f args at_ e
    simp only at e; subst e
    simp only [core] at h ⊢
    split at h
    · rename_i g cap vs h1 h2
      exact ⟨g, vs ++ cap, fun own' => by simp only [h1, h2]⟩
    · rename_i g bs cap vs h1 h2
      exact ⟨g, bs ++ vs ++ cap, fun own' => by simp only [h1, h2]⟩
    · cases h
  · rename_i rv name args at_ e
    simp only at e; subst e
    simp only [core] at h ⊢
    split at h
    · rename_i t v vs h1 h2
      split at h
      · rename_i f x h3
        exact ⟨f, x :: vs, fun own' => by simp only [h1, h2, h3]⟩
      · cases h
    · cases h
  · cases hv
theorem callA_frame {H : List (Option Blk)} {own own' : List Loc} {f : FuncId} {args : List AV} {r : Res} (hl : ∀ i o, Loc.cell i o ∈ own ↔ Loc.cell i o ∈ own') (h : callA call P H own f args = some r) :
    r.gives = false ∧ ∃ oo, callA call P H own' f args = some ⟨r.val, r.H, oo, r.gives⟩ ∧ (∀ s, Loc.slot s ∈ r.own ↔ Loc.slot s ∈ own) ∧ (∀ s, Loc.slot s ∈ oo ↔ Loc.slot s ∈ own') ∧ ∀ i o, Loc.cell i o ∈ oo ↔ Loc.cell i o ∈ r.own := by
  unfold callA at h ⊢
  cases hb : hasBody P f with
  | false => rw [hb] at h; cases h
  | true =>
    rw [hb] at h
    simp only [cond_true] at h ⊢
    have hcan : canon (own.filter Loc.isCell) = canon (own'.filter Loc.isCell) := by
      refine canon_ext fun x => ?_
      rw [List.mem_filter, List.mem_filter]
      cases x with
      | slot s => simp [Loc.isCell]
      | cell id off => rw [hl id off]
    rw [← hcan]
    split at h
    · rename_i x H' own1 hcl
      injection h with h; subst h
      refine ⟨rfl, _, rfl, fun s => ?_, fun s => ?_, fun i o => ?_⟩
      · simp only [List.mem_append, List.mem_filter]; simp [Loc.isCell]
      · simp only [List.mem_append, List.mem_filter]; simp [Loc.isCell]
      · simp only [List.mem_append, List.mem_filter]; simp [Loc.isCell]
    · cases h
theorem coreW_callFrame {env : List (Nat × AV)} {H : List (Option Blk)} {own own' : List Loc} {o : Oper} {r : Res} (hv : isCallV o = true) (hl : ∀ i o, Loc.cell i o ∈ own ↔ Loc.cell i o ∈ own') (h : coreW call P (some (base, lt)) ops o env H own = some r) :
    r.gives = false ∧ ∃ oo, coreW call P (some (base, lt)) ops o env H own' = some ⟨r.val, r.H, oo, r.gives⟩ ∧ (∀ s, Loc.slot s ∈ r.own ↔ Loc.slot s ∈ own) ∧ (∀ s, Loc.slot s ∈ oo ↔ Loc.slot s ∈ own') ∧ ∀ i o, Loc.cell i o ∈ oo ↔ Loc.cell i o ∈ r.own := by
  obtain ⟨p1, p2, p3⟩ := callV_parts (P := P) (ops := ops) hv
  unfold coreW at h ⊢
  cases hw : wantedA ops env o with
  | none => rw [hw] at h; cases h
  | some b =>
    rw [hw] at h
    cases b with
    | false =>
      injection h with h; subst h
      exact ⟨rfl, own', rfl, fun s => Iff.rfl, fun s => Iff.rfl, fun i o => (hl i o).symm⟩
    | true =>
      simp only at h ⊢
      have hlt : lateNo base lt ops o env = false := by
        unfold lateNo
        cases lt with
        | none => rfl
        | some ws => simp only [p3 base ws env, Bool.not_true]
      have hcp : ∀ q, coreP call P (some (base, lt)) ops o env H q = core call P ops o env H q := by
        intro q
        unfold coreP coreS
        simp only [p1, cond_false, hlt, p2, callV_map hv]
      rw [hcp] at h ⊢
      obtain ⟨f, args, hca⟩ := callV_callA hv h
      rw [hca] at h ⊢
      exact callA_frame hl h
theorem coreW_mvFrame {env : List (Nat × AV)} {H : List (Option Blk)} {own : List Loc} {o : Oper} {r : Res} (hv : isMv o = true) (h : coreW call P (some (base, lt)) ops o env H own = some r) :
    ∃ v m, v ∈ reads ops o ∧ r.H = H ∧ r.gives = m ∧ (∀ l, l ∈ r.own ↔ l ∈ own ∧ (m = true → l ≠ .slot v)) ∧ ∀ H' own', (Loc.slot v ∈ own' ↔ Loc.slot v ∈ own) → ∃ oo, coreW call P (some (base, lt)) ops o env H' own' = some ⟨r.val, H', oo, m⟩ ∧ ∀ l, l ∈ oo ↔ l ∈ own' ∧ (m = true → l ≠ .slot v) := by
  obtain ⟨dst, op, ty, pos, after, guard⟩ := o
  unfold isMv at hv
  split at hv
  case h_2 => cases hv
  rename_i v e
  simp only at e; subst e
  refine ⟨v, ?_⟩
  have hmem : v ∈ reads ops { dst := dst, op := .move (.tmp v), type := ty, pos := pos, after := after, guard := guard } := by
    unfold reads opSlots
    exact List.mem_append_right _ (List.mem_filterMap.2 ⟨.tmp v, by simp [Op.operands], rfl⟩)
  unfold coreW at h ⊢
  cases hw : wantedA ops env { dst := dst, op := .move (.tmp v), type := ty, pos := pos, after := after, guard := guard } with
  | none => rw [hw] at h; cases h
  | some b =>
    rw [hw] at h
    cases b with
    | false =>
      injection h with h; subst h
      exact ⟨false, hmem, rfl, rfl, fun l => ⟨fun h => ⟨h, fun e => by cases e⟩, fun h => h.1⟩, fun H' own' _ => ⟨own', rfl, fun l => ⟨fun h => ⟨h, fun e => by cases e⟩, fun h => h.1⟩⟩⟩
    | true =>
      simp only at h ⊢
      have hlt : lateNo base lt ops { dst := dst, op := .move (.tmp v), type := ty, pos := pos, after := after, guard := guard } env = false := by
        unfold lateNo
        cases lt with
        | none => rfl
        | some ws => rfl
      have hcp : ∀ q Hq, coreP call P (some (base, lt)) ops { dst := dst, op := .move (.tmp v), type := ty, pos := pos, after := after, guard := guard } env Hq q = some (cond (owns q (.slot v) && appDst ops dst) ⟨look env v, Hq, drop q (.slot v), true⟩ ⟨look env v, Hq, q, false⟩) := by
        intro q Hq
        unfold coreP coreS
        simp only [allocOp, cond_false, hlt, slElem, slTy, core, isMapO, isMapW, isMapR, Bool.or_false]
      rw [hcp] at h
      simp only [hcp]
      injection h with h
      refine ⟨owns own (.slot v) && appDst ops dst, hmem, ?_, ?_, ?_, ?_⟩
      · rw [← h]; cases (owns own (.slot v) && appDst ops dst) <;> rfl
      · rw [← h]; cases (owns own (.slot v) && appDst ops dst) <;> rfl
      · intro l
        rw [← h]
        cases (owns own (.slot v) && appDst ops dst) with
        | false => exact ⟨fun h => ⟨h, fun e => by cases e⟩, fun h => h.1⟩
        | true => show l ∈ drop own (.slot v) ↔ _; rw [mem_drop]; exact ⟨fun h => ⟨h.1, fun _ => h.2⟩, fun h => ⟨h.1, h.2 rfl⟩⟩
      · intro H' own' hs
        have hs' : owns own' (.slot v) = owns own (.slot v) := by rw [Bool.eq_iff_iff, owns_iff, owns_iff]; exact hs
        rw [hs', ← h]
        cases (owns own (.slot v) && appDst ops dst) with
        | false => exact ⟨own', rfl, fun l => ⟨fun h => ⟨h, fun e => by cases e⟩, fun h => h.1⟩⟩
        | true => exact ⟨drop own' (.slot v), rfl, fun l => by rw [mem_drop]; exact ⟨fun h => ⟨h.1, fun _ => h.2⟩, fun h => ⟨h.1, h.2 rfl⟩⟩⟩

theorem swap {c : Oper → CallA} {x i : Oper} {st st1 st2 : St} (hx : stepW (c x) P nt (some (base, lt)) ops x st = some st1) (hi : stepW (c i) P nt (some (base, lt)) ops i st1 = some st2) (u : Unord ops lt mx x i)
    (hmx : mx = true → (∀ o, mixAt ops o = true → FullLock (c o) ∧ CallFill (c o)) ∧ ∀ o, CallLen (c o)) (hba : mx = true → base + allocs ops ≤ st.H.length)
    (hv : ∀ id, Asks st.env i id → Live st.H id) :
    ∃ s1 s2, stepW (c i) P nt (some (base, lt)) ops i st = some s1 ∧ stepW (c x) P nt (some (base, lt)) ops x s1 = some s2 ∧ EqSt s2 st2 := by
  obtain ⟨rx, hcx, hpx⟩ := stepW_iff.1 hx
  obtain ⟨ri, hci, hpi⟩ := stepW_iff.1 hi
  obtain ⟨hnx, rfl⟩ := put_iff.1 hpx
  obtain ⟨hni, rfl⟩ := put_iff.1 hpi
  simp only at hci ⊢
  have henv : coreW (c i) P (some (base, lt)) ops i st.env rx.H (putOwn rx.own rx.gives x.dst) = some ri := by
    rw [← hci]
    apply coreW_env
    intro s hs
    rw [look_putEnv]
    rw [if_neg]
    intro e
    exact (u.r1 s e).1 hs
  -- the heap
  have hH : ∃ Hi, coreW (c i) P (some (base, lt)) ops i st.env st.H (putOwn rx.own rx.gives x.dst) = some ⟨ri.val, Hi, ri.own, ri.gives⟩ ∧ coreW (c x) P (some (base, lt)) ops x st.env Hi st.own = some ⟨rx.val, ri.H, rx.own, rx.gives⟩ := by
    have load_low : ∀ {call : CallA} {o y : Oper} {H : List (Option Blk)} {own : List Loc} {r : Res} {id : Nat}, (isLoad o = true ∧ lateD ops o.dst = true ∧ ∀ s, stSlot y = some s → lateP ops o.dst s = true) → wantedA ops st.env o = some true → coreW call P (some (base, lt)) ops o st.env H own = some r → ∀ ws, lt = some ws → Asks st.env o id → (Nat.blt id base && !(ws.any fun p => stSlot y == some p.1 && Nat.beq id p.2)) = true := by
      rintro call o y H own r id ⟨hl, hld, hlp⟩ hw hc ws hlt hask
      have low : loadOk ops base ws o.dst id = true → (Nat.blt id base && !(ws.any fun p => stSlot y == some p.1 && Nat.beq id p.2)) = true := by
        intro h
        unfold loadOk at h
        rw [hld] at h
        simp only [Bool.not_true, Bool.false_or, Bool.and_eq_true, Bool.not_eq_true'] at h ⊢
        refine ⟨h.1, ?_⟩
        rw [List.any_eq_false] at h ⊢
        intro p hp hq
        simp only [Bool.and_eq_true] at hq
        refine h.2 p hp ?_
        rw [hlp p.1 (by simpa using hq.1), hq.2]; rfl
      obtain ⟨dst, op, ty, pos, after, guard⟩ := o
      unfold isLoad at hl
      split at hl
      · rename_i t a e
        simp only at e; subst e
        have := coreW_late hw hc hlt rfl
        rcases hask with ⟨t', a', off, e1, e2⟩ | ⟨hm, _⟩
        · injection e1 with _ e1; subst e1
          unfold lateOk at this
          simp only [e2] at this
          exact low this
        · cases hm
      · rename_i t x k ok e
        simp only at e; subst e
        have := coreW_late hw hc hlt rfl
        rcases hask with ⟨t', a', off, e1, e2⟩ | ⟨_, x', a, hx, e1, e2⟩
        · cases e1
        · have hxx : x = x' := by simpa [Op.operands] using hx
          subst hxx
          unfold mapAsk at e2
          split at e2
          · injection e2 with e2; subst e2
            unfold lateOk at this
            simp only [e1] at this
            exact low this
          · cases e2
      · cases hl
    have load_parts : ∀ {o : Oper}, isLoad o = true → heapOp o = false ∧ allocOp o = false := by
      intro o hl
      obtain ⟨dst, op, ty, pos, after, guard⟩ := o
      unfold isLoad at hl
      split at hl
      · rename_i e; simp only at e; subst e; exact ⟨rfl, rfl⟩
      · rename_i e; simp only at e; subst e; exact ⟨rfl, rfl⟩
      · cases hl
    by_cases hA : heapOp x = false ∧ allocOp x = false
    · obtain ⟨q1, q2⟩ := coreW_heap hA.1 hA.2 hcx
      rw [q1] at henv
      cases hwx : wantedA ops st.env x with
      | none => unfold coreW at hcx; rw [hwx] at hcx; cases hcx
      | some bx =>
      cases bx with
      | false =>
        have hcx' := hcx
        unfold coreW at hcx'
        rw [hwx] at hcx'
        injection hcx' with hcx'
        subst hcx'
        exact ⟨ri.H, henv, by unfold coreW; rw [hwx]⟩
      | true =>
      refine ⟨ri.H, henv, q2 _ ?_⟩
      intro id hask hlive
      cases hhi : heapOp i with
      | true =>
        rcases u.h2 hhi with h | ⟨⟨ws, h1⟩, h2, h3⟩ | ⟨h1, h2, _⟩
        · exact absurd hask (noAsks h)
        · exact (coreW_store h2 h1 henv).1 id (load_low h3 hwx hcx ws h1 hask)
        · exact (coreW_call ((hmx h1.1).1 i h1.2).1 ((hmx h1.1).1 i h1.2).2 h2 henv).1.2 id hlive.lt
      | false => exact live_step hhi henv hlive
    · by_cases hB : heapOp i = false ∧ allocOp i = false
      · obtain ⟨q1, q2⟩ := coreW_heap hB.1 hB.2 henv
        cases hwi : wantedA ops st.env i with
        | none => unfold coreW at henv; rw [hwi] at henv; cases henv
        | some bi =>
        cases bi with
        | false =>
          have henv' := henv
          unfold coreW at henv'
          rw [hwi] at henv'
          injection henv' with henv'
          subst henv'
          exact ⟨st.H, by unfold coreW; rw [hwi], hcx⟩
        | true =>
        refine ⟨st.H, q2 _ ?_, ?_⟩
        · intro id hask _
          have hlive := hv id hask
          cases hhx : heapOp x with
          | true =>
            rcases u.h1 hhx with h | ⟨⟨ws, h1⟩, h2, h3⟩ | ⟨h1, h2, _⟩
            · exact absurd hask (noAsks h)
            · exact ((coreW_store h2 h1 hcx).1 id (load_low h3 hwi henv ws h1 hask)).symm
            · exact ((coreW_call ((hmx h1.1).1 x h1.2).1 ((hmx h1.1).1 x h1.2).2 h2 hcx).1.2 id hlive.lt).symm
          | false => exact (live_step hhx hcx hlive).symm
        · rw [q1]; exact hcx
      · by_cases hC : isCallV x = true ∧ (mx = true ∧ mixAt ops x = true) ∧ allocOp i = true
        · obtain ⟨hc1, hc2, hai⟩ := hC
          obtain ⟨l1, l2⟩ := coreW_call ((hmx hc2.1).1 x hc2.2).1 ((hmx hc2.1).1 x hc2.2).2 hc1 hcx
          rcases coreW_alloc hai henv with ⟨d', q', k', y1, y2, y3, y4, y5⟩ | ⟨y1, y2⟩
          · have hlt : base + q' < st.H.length := by have := rank_lt ops y2; have := hba hc2.1; omega
            have hhole : st.H[base + q']? = some none := by rw [← l1.2 _ hlt]; exact y3
            exact ⟨st.H.set (base + q') (some k'), y5 _ hhole, by rw [l2 _ k' hhole, y4]⟩
          · exact ⟨st.H, y2 _, by rw [y1]; exact hcx⟩
        -- both make a block
        have hax : allocOp x = true := by
          cases hhx : heapOp x with
          | true =>
            rcases u.h1 hhx with h | ⟨_, _, h⟩ | ⟨h1, h2, h3 | h3⟩
            · exact absurd ⟨(memOp_parts h).1, (memOp_parts h).2.1⟩ hB
            · exact absurd (load_parts h.1) hB
            · exact absurd (load_parts h3) hB
            · exact absurd ⟨h2, h1, h3⟩ hC
          | false =>
            cases h : allocOp x with
            | true => rfl
            | false => exact absurd ⟨hhx, h⟩ hA
        have hhi : heapOp i = false := by
          cases hhi : heapOp i with
          | false => rfl
          | true =>
            rcases u.h2 hhi with h | ⟨_, _, h⟩ | ⟨_, _, h⟩
            · rw [alloc_mem hax] at h; cases h
            · have := (load_parts h.1).2; rw [hax] at this; cases this
            · have := (load_parts h).2; rw [hax] at this; cases this
        have hai : allocOp i = true := by
          cases h : allocOp i with
          | true => rfl
          | false => exact absurd ⟨hhi, h⟩ hB
        rcases coreW_alloc hax hcx with ⟨d, q, k, x1, x2, x3, x4, x5⟩ | ⟨x1, x2⟩
        · rcases coreW_alloc hai henv with ⟨d', q', k', y1, y2, y3, y4, y5⟩ | ⟨y1, y2⟩
          · have hne : base + q ≠ base + q' := by
              intro e
              have : q = q' := by omega
              subst this
              have := rank_inj ops x2 y2
              subst this
              exact (u.r1 d x1).2 y1
            rw [x4, List.getElem?_set_ne hne] at y3
            refine ⟨st.H.set (base + q') (some k'), y5 _ y3, ?_⟩
            have := x5 (st.H.set (base + q') (some k')) (by rw [List.getElem?_set_ne hne.symm]; exact x3)
            rw [this, y4, x4, List.set_comm _ _ hne]
          · refine ⟨st.H, y2 _, ?_⟩
            rw [y1]; exact hcx
        · rw [x1] at henv
          refine ⟨ri.H, henv, x2 _⟩
  obtain ⟨Hi, f1, f2⟩ := hH
  -- the ends
  have hne : ∀ d, x.dst = some d → i.dst ≠ some d := fun d e => (u.r1 d e).2
  have hO : ∃ oi, coreW (c i) P (some (base, lt)) ops i st.env st.H st.own = some ⟨ri.val, Hi, oi, ri.gives⟩ ∧ ∃ ox, coreW (c x) P (some (base, lt)) ops x st.env Hi (putOwn oi ri.gives i.dst) = some ⟨rx.val, ri.H, ox, rx.gives⟩ ∧ ∀ l, l ∈ putOwn ox rx.gives x.dst ↔ l ∈ putOwn ri.own ri.gives i.dst := by
    by_cases hmc : mvCall x i = true
    · unfold mvCall at hmc
      rw [Bool.or_eq_true, Bool.and_eq_true, Bool.and_eq_true] at hmc
      have pc : ∀ (own : List Loc) (g : Bool) (dst : Option Nat) (a b : Nat), Loc.cell a b ∈ putOwn own g dst ↔ Loc.cell a b ∈ own := by
        intro own g dst a b
        rw [mem_putOwn]
        exact ⟨fun h => by rcases h with ⟨s, _, e, _⟩ | h; cases e; exact h.1, fun h => .inr ⟨h, fun s _ e => by cases e⟩⟩
      have ps : ∀ (own : List Loc) (g : Bool) (dst : Option Nat) (s : Nat), Loc.slot s ∈ putOwn own g dst ↔ (dst = some s ∧ g = true) ∨ (Loc.slot s ∈ own ∧ dst ≠ some s) := by
        intro own g dst s
        rw [mem_putOwn]
        constructor
        · rintro (⟨s', e1, e2, e3⟩ | ⟨e1, e2⟩)
          · injection e2 with e2; subst e2; exact .inl ⟨e1, e3⟩
          · exact .inr ⟨e1, fun e => e2 s e rfl⟩
        · rintro (⟨e1, e2⟩ | ⟨e1, e2⟩)
          · exact .inl ⟨s, e1, rfl, e2⟩
          · exact .inr ⟨e1, fun s' e e3 => by injection e3 with e3; subst e3; exact e2 e⟩
      rcases hmc with ⟨hx, hi⟩ | ⟨hx, hi⟩
      · obtain ⟨v, m, v1, v2, v3, v4, v5⟩ := coreW_mvFrame hx hcx
        obtain ⟨c1, oi, c2, c3, c4, c5⟩ := coreW_callFrame hi (own' := st.own) (fun a b => by rw [pc, v4]; exact ⟨fun h => h.1, fun h => ⟨h, fun _ e => by cases e⟩⟩) f1
        simp only at c1 c2 c3 c4 c5
        have hvd : i.dst ≠ some v := fun e => u.r2 v e v1
        obtain ⟨ox, d1, d2⟩ := v5 Hi (putOwn oi ri.gives i.dst) (by rw [ps, c4, c1]; exact ⟨fun h => by rcases h with ⟨e, _⟩ | h; exact absurd e hvd; exact h.1, fun h => .inr ⟨h, hvd⟩⟩)
        have hHi : Hi = ri.H := by
          have f3 := f2
          obtain ⟨_, _, _, w2, _, _, _⟩ := coreW_mvFrame hx f2
          exact w2.symm
        refine ⟨oi, c2, ox, by rw [d1, v3, hHi], ?_⟩
        intro l
        cases l with
        | cell a b => rw [pc, pc, d2, pc, c5]; exact ⟨fun h => h.1, fun h => ⟨h, fun _ e => by cases e⟩⟩
        | slot s =>
          rw [ps, ps, d2, ps, c4, c3, ps, v4, c1, v3]
          constructor
          · rintro (⟨e1, e2⟩ | ⟨⟨⟨_, e⟩ | ⟨e1, e2⟩, e3⟩, e4⟩)
            · exact .inr ⟨.inl ⟨e1, e2⟩, hne s e1⟩
            · cases e
            · exact .inr ⟨.inr ⟨⟨e1, e3⟩, e4⟩, e2⟩
          · rintro (⟨_, e⟩ | ⟨⟨e1, e2⟩ | ⟨⟨e1, e3⟩, e4⟩, e2⟩)
            · cases e
            · exact .inl ⟨e1, e2⟩
            · exact .inr ⟨⟨.inr ⟨e1, e2⟩, e3⟩, e4⟩
      · obtain ⟨v, m, v1, v2, v3, v4, v5⟩ := coreW_mvFrame hi f1
        simp only at v2 v3 v4
        obtain ⟨c1, oc, c2, c3, c4, c5⟩ := coreW_callFrame hx (own' := st.own) (fun a b => Iff.rfl) hcx
        have hvd : x.dst ≠ some v := fun e => (u.r1 v e).1 v1
        obtain ⟨oi, d1, d2⟩ := v5 st.H st.own (by rw [ps, c3]; exact ⟨fun h => .inr ⟨h, hvd⟩, fun h => by rcases h with ⟨e, _⟩ | h; exact absurd e hvd; exact h.1⟩)
        subst v2
        obtain ⟨b1, ox, b2, b3, b4, b5⟩ := coreW_callFrame hx (own' := putOwn oi ri.gives i.dst) (fun a b => by rw [pc, d2]; exact ⟨fun h => ⟨h, fun _ e => by cases e⟩, fun h => h.1⟩) f2
        simp only at b1 b2 b3 b4 b5
        refine ⟨oi, by rw [d1, v3], ox, b2, ?_⟩
        intro l
        cases l with
        | cell a b => rw [pc, pc, b5, v4, pc]; exact ⟨fun h => ⟨h, fun _ e => by cases e⟩, fun h => h.1⟩
        | slot s =>
          rw [ps, ps, b4, ps, d2, v4, ps, c3, b1, v3]
          constructor
          · rintro (⟨_, e⟩ | ⟨⟨e1, e2⟩ | ⟨⟨e1, e3⟩, e4⟩, e2⟩)
            · cases e
            · exact .inl ⟨e1, e2⟩
            · exact .inr ⟨⟨.inr ⟨e1, e2⟩, e3⟩, e4⟩
          · rintro (⟨e1, e2⟩ | ⟨⟨⟨_, e⟩ | ⟨e1, e2⟩, e3⟩, e4⟩)
            · exact .inr ⟨.inl ⟨e1, e2⟩, fun e => hne s e e1⟩
            · cases e
            · exact .inr ⟨.inr ⟨⟨e1, e3⟩, e4⟩, e2⟩
    have ue : ends ops x = false ∨ ends ops i = false := by
      rcases u.e with h | h | h
      · exact .inl h
      · exact .inr h
      · exact absurd h hmc
    cases hex : ends ops x with
    | false =>
      obtain ⟨q1, q2⟩ := coreW_own hex f2
      obtain ⟨o1, _⟩ := coreW_own hex hcx
      have hlike : Like (fun s => x.dst = some s) (putOwn rx.own rx.gives x.dst) st.own := by
        intro l hl
        rw [mem_putOwn, o1]
        constructor
        · rintro (⟨s, e1, e2, _⟩ | ⟨e, _⟩)
          · exact absurd e1 (hl s e2)
          · exact e
        · intro h
          exact .inr ⟨h, fun s e1 e2 => hl s e2 e1⟩
      obtain ⟨oi, g1, g2, g3⟩ := coreW_frame (S := fun s => x.dst = some s) (fun s hs => (u.r1 s hs).1) hlike f1
      simp only at g1 g2 g3
      refine ⟨oi, g1, putOwn oi ri.gives i.dst, q2 _, ?_⟩
      intro l
      by_cases hl : ∃ s, l = .slot s ∧ x.dst = some s
      · obtain ⟨s, rfl, hs⟩ := hl
        rw [mem_putOwn, mem_putOwn (own := ri.own)]
        have h3 := (g3 s hs).1
        rw [mem_putOwn] at h3
        constructor
        · rintro (⟨s', e1, e2, e3⟩ | ⟨_, e⟩)
          · refine .inr ⟨h3.2 (.inl ⟨s', e1, e2, e3⟩), fun s2 e4 e5 => ?_⟩
            injection e5 with e5; subst e5; exact hne _ hs e4
          · exact absurd rfl (e s hs)
        · rintro (⟨s', e1, e2, e3⟩ | ⟨e, _⟩)
          · injection e2 with e2; subst e2; exact absurd e1 (hne _ hs)
          · rcases h3.1 e with ⟨s', e1, e2, e3⟩ | ⟨_, e2⟩
            · exact .inl ⟨s', e1, e2, e3⟩
            · exact absurd rfl (e2 s hs)
      · have hl' : ∀ s, l = .slot s → ¬ x.dst = some s := fun s e1 e2 => hl ⟨s, e1, e2⟩
        rw [mem_putOwn, mem_putOwn, mem_putOwn (own := ri.own), g2 l hl']
        constructor
        · rintro (⟨s', e1, e2, e3⟩ | ⟨e, _⟩)
          · exact absurd e1 (hl' s' e2)
          · exact e
        · intro e
          exact .inr ⟨e, fun s e1 e2 => hl' s e2 e1⟩
    | true =>
      have hei : ends ops i = false := by
        rcases ue with h | h
        · rw [hex] at h; cases h
        · exact h
      obtain ⟨q1, q2⟩ := coreW_own hei f1
      simp only at q1 q2
      have hlike : Like (fun s => i.dst = some s) st.own (putOwn st.own ri.gives i.dst) := by
        intro l hl
        rw [mem_putOwn]
        constructor
        · intro h
          exact .inr ⟨h, fun s e1 e2 => hl s e2 e1⟩
        · rintro (⟨s, e1, e2, _⟩ | ⟨e, _⟩)
          · exact absurd e1 (hl s e2)
          · exact e
      obtain ⟨ox, g1, g2, g3⟩ := coreW_frame (S := fun s => i.dst = some s) (fun s hs => u.r2 s hs) hlike f2
      simp only at g1 g2 g3
      refine ⟨st.own, q2 _, ox, g1, ?_⟩
      intro l
      rw [q1]
      by_cases hl : ∃ s, l = .slot s ∧ i.dst = some s
      · obtain ⟨s, rfl, hs⟩ := hl
        rw [mem_putOwn, mem_putOwn]
        have h3 := (g3 s hs).2
        rw [mem_putOwn] at h3
        constructor
        · rintro (⟨s', e1, e2, e3⟩ | ⟨e, _⟩)
          · injection e2 with e2; subst e2; exact absurd hs (hne _ e1)
          · rcases h3.1 e with h | ⟨_, e2⟩
            · exact .inl h
            · exact absurd rfl (e2 s hs)
        · rintro (⟨s', e1, e2, e3⟩ | ⟨_, e⟩)
          · refine .inr ⟨h3.2 (.inl ⟨s', e1, e2, e3⟩), fun s2 e4 e5 => ?_⟩
            injection e5 with e5; subst e5; exact hne _ e4 hs
          · exact absurd rfl (e s hs)
      · have hl' : ∀ s, l = .slot s → ¬ i.dst = some s := fun s e1 e2 => hl ⟨s, e1, e2⟩
        rw [mem_putOwn, mem_putOwn, mem_putOwn, g2 l hl']
        constructor
        · intro e
          exact .inr ⟨e, fun s e1 e2 => hl' s e2 e1⟩
        · rintro (⟨s', e1, e2, e3⟩ | ⟨e, _⟩)
          · exact absurd e1 (hl' s' e2)
          · exact e
  obtain ⟨oi, g1, ox, g2, g3⟩ := hO
  refine ⟨⟨putEnv st.env i.dst ri.val, Hi, putOwn oi ri.gives i.dst⟩, ⟨putEnv (putEnv st.env i.dst ri.val) x.dst rx.val, ri.H, putOwn ox rx.gives x.dst⟩,
    stepW_iff.2 ⟨_, g1, put_iff.2 ⟨hni, rfl⟩⟩, stepW_iff.2 ⟨⟨rx.val, ri.H, ox, rx.gives⟩, ?_, put_iff.2 ⟨hnx, rfl⟩⟩, ?_, rfl, g3⟩
  · simp only
    rw [← g2]
    apply coreW_env
    intro s hs
    rw [look_putEnv, if_neg]
    intro e
    exact u.r2 s e hs
  · intro k
    simp only [look_putEnv]
    by_cases h1 : x.dst = some k
    · rw [if_pos h1, if_pos h1, if_neg (u.r1 k h1).2]
    · rw [if_neg h1, if_neg h1]

theorem stepW_eq {o : Oper} {st st' s1 : St} (h : EqSt st st') (hs : stepW call P nt (some (base, lt)) ops o st = some s1) : ∃ s1', stepW call P nt (some (base, lt)) ops o st' = some s1' ∧ EqSt s1 s1' := by
  obtain ⟨r, hc, hp⟩ := stepW_iff.1 hs
  obtain ⟨hn, rfl⟩ := put_iff.1 hp
  rw [coreW_env (env' := st'.env) fun s _ => h.env s, h.H] at hc
  obtain ⟨oo, g1, g2, _⟩ := coreW_frame (S := fun _ => False) (fun s hs => hs.elim) (own' := st'.own) (fun l _ => h.own l) hc
  refine ⟨_, stepW_iff.2 ⟨_, g1, put_iff.2 ⟨hn, rfl⟩⟩, ?_, rfl, ?_⟩
  · intro k; simp only [look_putEnv, h.env k]
  · intro l
    rw [mem_putOwn, mem_putOwn, g2 l fun s _ hs => hs.elim]
theorem runOps_eq {c : Oper → CallA} : ∀ (l : List Oper) {st st' s1 : St}, EqSt st st' → runOps c P nt (some (base, lt)) ops l st = some s1 → ∃ s1', runOps c P nt (some (base, lt)) ops l st' = some s1' ∧ EqSt s1 s1'
  | [], _, _, _, h, hs => by simp only [runOps, Option.some.injEq] at hs ⊢; subst hs; exact ⟨_, rfl, h⟩
  | o :: l, st, st', s1, h, hs => by
    simp only [runOps] at hs ⊢
    split at hs
    · rename_i q hq
      obtain ⟨q', hq', he⟩ := stepW_eq h hq
      obtain ⟨s1', h1, h2⟩ := runOps_eq l he hs
      exact ⟨s1', by rw [hq']; exact h1, h2⟩
    · cases hs
theorem EqSt.trans {a b c : St} (h : EqSt a b) (k : EqSt b c) : EqSt a c := ⟨fun s => (h.env s).trans (k.env s), h.H.trans k.H, fun l => (h.own l).trans (k.own l)⟩
theorem EqSt.symm {a b : St} (h : EqSt a b) : EqSt b a := ⟨fun s => (h.env s).symm, h.H.symm, fun l => (h.own l).symm⟩

/-- An operation that has nothing to do with those ahead of it goes first. -/
theorem front {c : Oper → CallA} {i : Oper} : ∀ (l : List Oper) {st stA stB : St}, runOps c P nt (some (base, lt)) ops l st = some stA → stepW (c i) P nt (some (base, lt)) ops i stA = some stB → (∀ x ∈ l, Unord ops lt mx x i) → (mx = true → (∀ o, mixAt ops o = true → FullLock (c o) ∧ CallFill (c o)) ∧ ∀ o, CallLen (c o)) → (mx = true → base + allocs ops ≤ st.H.length) →
    (∀ id, Asks st.env i id → Live st.H id) →
    ∃ s1 s2, stepW (c i) P nt (some (base, lt)) ops i st = some s1 ∧ runOps c P nt (some (base, lt)) ops l s1 = some s2 ∧ EqSt s2 stB
  | [], st, stA, stB, hr, hi, _, _, _, _ => by
    simp only [runOps, Option.some.injEq] at hr; subst hr
    exact ⟨stB, stB, hi, rfl, fun _ => rfl, rfl, fun _ => Iff.rfl⟩
  | x :: l, st, stA, stB, hr, hi, hu, hmx, hba, hv => by
    simp only [runOps] at hr
    split at hr
    case h_2 => cases hr
    rename_i st1 hx
    have ux := hu x (by simp)
    obtain ⟨t1, t2, ht1, ht2, heq⟩ := front l hr hi (fun y hy => hu y (by simp [hy])) hmx (fun e => Nat.le_trans (hba e) (stepW_len ((hmx e).2 x) hx)) (by
      intro id hask
      obtain ⟨r, hcr, hpr⟩ := stepW_iff.1 hx
      obtain ⟨hn, rfl⟩ := put_iff.1 hpr
      simp only at hask ⊢
      have hl := hv id ((asks_env fun s hs => by
        rw [look_putEnv, if_neg]
        intro e
        exact (ux.r1 s e).1 (List.mem_append_right _ hs)).1 hask)
      cases hhx : heapOp x with
      | true =>
        rcases ux.h1 hhx with h | ⟨⟨ws, h1⟩, h2, _⟩ | ⟨h1, h2, _⟩
        · exact absurd hask (noAsks h)
        · exact (coreW_store h2 h1 hcr).2 id hl
        · obtain ⟨b, hb⟩ := hl
          exact ⟨b, by rw [(coreW_call ((hmx h1.1).1 x h1.2).1 ((hmx h1.1).1 x h1.2).2 h2 hcr).1.2 id (List.getElem?_eq_some_iff.1 hb).1]; exact hb⟩
      | false =>
        obtain ⟨b, hb⟩ := hl
        exact ⟨b, by rw [live_step hhx hcr ⟨b, hb⟩]; exact hb⟩)
    obtain ⟨s1, s2, h1, h2, he⟩ := swap hx ht1 ux hmx hba hv
    obtain ⟨s3, h3, he3⟩ := runOps_eq l he.symm ht2
    exact ⟨s1, s3, h1, by simp only [runOps, h2]; exact h3, he3.symm.trans heq⟩

theorem runOps_append {c : Oper → CallA} (l1 l2 : List Oper) (st : St) : runOps c P nt (some (base, lt)) ops (l1 ++ l2) st = (runOps c P nt (some (base, lt)) ops l1 st).bind (runOps c P nt (some (base, lt)) ops l2) := by
  induction l1 generalizing st with
  | nil => rfl
  | cons o l ih =>
    simp only [List.cons_append, runOps]
    split
    · rename_i q hq; exact ih q
    · rfl

end
end Go.Proofs.YtklecelgejlihaaGreatDoor.Am

/- The abstract machine is right, nineteenth part: regions that draw the order of their operations. -/
namespace Go.Proofs.YtklecelgejlihaaGreatDoor.Am
set_option linter.unusedVariables false
set_option linter.unusedSimpArgs false
open Go.RowKit

section
variable {P : Program} {call : CallA} {nt B : Nat}

/-! ### what the text of a region says -/
def Listed (l : Array Bool) (k : Nat) : Prop := l.getD k false = true
def Heard (ops : List Oper) (l : Array Bool) (j : Nat) : Prop := ∀ o, ops[j]? = some o → ∀ e ∈ o.after.toList, Region.binds .any e = true → Listed l e.on

theorem ahead_bit (acc : List Nat) (k : Nat) : ∀ (l : List Edge) (m : Nat), (ahead acc l m).testBit k = true → m.testBit k = true ∨ ∃ e ∈ l, Region.binds .any e = true ∧ (k = e.on ∨ (acc.getD e.on 0).testBit k = true)
  | [], m, h => .inl h
  | e :: r, m, h => by
    rcases ahead_bit acc k r _ h with h | ⟨e', h1, h2⟩
    · cases hb : Region.binds .any e with
      | false => rw [hb] at h; exact .inl h
      | true =>
        rw [hb] at h
        simp only [cond_true, Nat.testBit_or, Bool.or_eq_true] at h
        rcases h with (h | h) | h
        · exact .inl h
        · refine .inr ⟨e, by simp, hb, .inl ?_⟩
          rw [Nat.testBit_shiftLeft, Bool.and_eq_true] at h
          have h2 := h.2
          have h1 : k ≥ e.on := by simpa using h.1
          rcases Nat.eq_zero_or_pos (k - e.on) with h0 | h0
          · omega
          · obtain ⟨q, hq⟩ : ∃ q, k - e.on = q + 1 := ⟨k - e.on - 1, by omega⟩
            rw [hq] at h2
            simp [Nat.testBit_succ] at h2
        · exact .inr ⟨e, by simp, hb, .inr h⟩
    · exact .inr ⟨e', by simp [h1], h2⟩

theorem befores_heard {ops : List Oper} {l : Array Bool} (hcl : ∀ k, Listed l k → Heard ops l k) : ∀ (r : List Oper) (acc : List Nat), (∀ k, r[k]? = ops[acc.length + k]?) → (∀ j, Heard ops l j → ∀ k, (acc.getD j 0).testBit k = true → Listed l k) →
    ∀ j, Heard ops l j → ∀ k, ((befores r acc).getD j 0).testBit k = true → Listed l k
  | [], acc, _, h => h
  | o :: r, acc, hr, h => by
    refine befores_heard hcl r _ (fun k => ?_) ?_
    · have := hr (k + 1)
      rw [List.length_append]
      simp only [List.length_cons, List.length_nil]
      rw [← (by omega : acc.length + (k + 1) = acc.length + (0 + 1) + k)]
      simpa using this
    · intro j hj k hk
      rw [List.getD_eq_getElem?_getD] at hk
      rcases Nat.lt_trichotomy j acc.length with hlt | rfl | hgt
      · rw [List.getElem?_append_left hlt, ← List.getD_eq_getElem?_getD] at hk
        exact h j hj k hk
      · rw [List.getElem?_append_right (Nat.le_refl _), Nat.sub_self] at hk
        simp only [List.getElem?_cons_zero, Option.getD_some] at hk
        have ho : ops[acc.length]? = some o := by have := hr 0; simpa using this.symm
        rcases ahead_bit acc k _ _ hk with h0 | ⟨e, he, hb, hk⟩
        · simp at h0
        · have hl := hj o ho e he hb
          rcases hk with rfl | hk
          · exact hl
          · exact h e.on (hcl _ hl) k hk
      · rw [List.getElem?_append_right (by omega)] at hk
        obtain ⟨q, hq⟩ : ∃ q, j - acc.length = q + 1 := ⟨j - acc.length - 1, by omega⟩
        rw [hq] at hk
        simp at hk

theorem region_back {ops : List Oper} (h : regionOk ops = true) {j : Nat} {o : Oper} (ho : ops[j]? = some o) (e : Edge) (he : e ∈ o.after.toList) (hb : Region.binds .any e = true) : e.on < j := by
  unfold regionOk at h
  simp only [Bool.and_eq_true] at h
  have := List.all_eq_true.1 h.1.1 (o, j) (List.mem_zipIdx_iff_getElem?.2 ho)
  have := List.all_eq_true.1 this e he
  rw [hb] at this
  simp only [Bool.not_true, Bool.false_or] at this
  exact Nat.blt_eq.mp this
theorem region_pair {ops : List Oper} (h : regionOk ops = true) {i j : Nat} {x y : Oper} (hx : ops[i]? = some x) (hy : ops[j]? = some y) (hij : i < j) :
    pairOk ops (befores ops []) i j x y = true ∧ ∀ d, x.dst = some d → y.dst ≠ some d := by
  unfold regionOk at h
  simp only [Bool.and_eq_true] at h
  have := List.all_eq_true.1 h.2 (y, j) (List.mem_zipIdx_iff_getElem?.2 hy)
  have := List.all_eq_true.1 this (x, i) (List.mem_zipIdx_iff_getElem?.2 hx)
  simp only at this
  have hb : Nat.blt i j = true := Nat.blt_eq.mpr hij
  rw [hb] at this
  simp only [Bool.not_true, Bool.false_or, Bool.and_eq_true] at this
  refine ⟨this.1, fun d e1 e2 => ?_⟩
  have h2 := this.2
  rw [e1] at h2
  simp only [e2, beq_self_eq_true, Bool.not_true] at h2
  cases h2
theorem noLoad {o : Oper} (h : heapOp o = true) : ¬ isLoad o = true := by
  intro hl
  obtain ⟨dst, op, ty, pos, after, guard⟩ := o
  unfold isLoad at hl
  split at hl
  · rename_i e; simp only at e; subst e; simp [heapOp, slOp, slTy, isMapW] at h
  · rename_i e; simp only at e; subst e; simp [heapOp, slOp, slTy, isMapW] at h
  · cases hl
theorem noAlloc {o : Oper} (h : heapOp o = true) : ¬ allocOp o = true := by
  intro hl
  obtain ⟨dst, op, ty, pos, after, guard⟩ := o
  unfold allocOp at hl
  split at hl
  · rename_i e; simp only at e; subst e; simp [heapOp, slOp, slTy, isMapW] at h
  · rename_i e; simp only at e; subst e; simp [heapOp, slOp, slTy, isMapW] at h
  · cases hl
theorem mix_at {ops : List Oper} {i j : Nat} {x y : Oper} (hij : i < j) (hx : ops[i]? = some x) (hy : ops[j]? = some y) (hn : ¬ ((befores ops []).getD j 0).testBit i = true) : (isCallV x = true ∧ (isLoad y = true ∨ allocOp y = true) → mixAt ops x = true) ∧ (isLoad x = true ∧ isCallV y = true → mixAt ops y = true) := by
  have hnf : (((befores ops []).getD j 0).testBit i) = false := by simpa using hn
  constructor
  · rintro ⟨h1, h2⟩
    unfold mixAt mixD
    split
    · rename_i d hd
      refine List.any_eq_true.2 ⟨(y, j), List.mem_zipIdx_iff_getElem?.2 hy, List.any_eq_true.2 ⟨(x, i), List.mem_zipIdx_iff_getElem?.2 hx, ?_⟩⟩
      simp only [Nat.blt_eq.mpr hij, hnf, Bool.not_false, Bool.true_and, hd, beq_self_eq_true, h1]
      rcases h2 with h2 | h2 <;> simp [h2]
    · rfl
  · rintro ⟨h1, h2⟩
    unfold mixAt mixD
    split
    · rename_i d hd
      refine List.any_eq_true.2 ⟨(y, j), List.mem_zipIdx_iff_getElem?.2 hy, List.any_eq_true.2 ⟨(x, i), List.mem_zipIdx_iff_getElem?.2 hx, ?_⟩⟩
      simp only [Nat.blt_eq.mpr hij, hnf, Bool.not_false, Bool.true_and, hd, beq_self_eq_true, h1, h2, Bool.or_true]
    · rfl
theorem late_at {ops : List Oper} {i j : Nat} {x y : Oper} (hij : i < j) (hx : ops[i]? = some x) (hy : ops[j]? = some y) (hn : ¬ ((befores ops []).getD j 0).testBit i = true) : (isStore x = true ∧ isLoad y = true → lateD ops y.dst = true ∧ ∀ s, stSlot x = some s → lateP ops y.dst s = true) ∧ (isLoad x = true ∧ isStore y = true → lateD ops x.dst = true ∧ ∀ s, stSlot y = some s → lateP ops x.dst s = true) := by
  have hnf : (((befores ops []).getD j 0).testBit i) = false := by simpa using hn
  constructor
  · rintro ⟨h1, h2⟩
    refine ⟨?_, fun s hs => ?_⟩
    · unfold lateD
      split
      · rename_i d hd
        refine List.any_eq_true.2 ⟨(y, j), List.mem_zipIdx_iff_getElem?.2 hy, List.any_eq_true.2 ⟨(x, i), List.mem_zipIdx_iff_getElem?.2 hx, ?_⟩⟩
        simp only [Nat.blt_eq.mpr hij, hnf, Bool.not_false, Bool.true_and, hd, beq_self_eq_true, h1, h2, Bool.or_true]
      · rfl
    · unfold lateP
      split
      · rename_i d hd
        refine List.any_eq_true.2 ⟨(y, j), List.mem_zipIdx_iff_getElem?.2 hy, List.any_eq_true.2 ⟨(x, i), List.mem_zipIdx_iff_getElem?.2 hx, ?_⟩⟩
        simp only [Nat.blt_eq.mpr hij, hnf, Bool.not_false, Bool.true_and, hd, beq_self_eq_true, h1, h2, hs, Bool.or_true]
      · rfl
  · rintro ⟨h1, h2⟩
    refine ⟨?_, fun s hs => ?_⟩
    · unfold lateD
      split
      · rename_i d hd
        refine List.any_eq_true.2 ⟨(y, j), List.mem_zipIdx_iff_getElem?.2 hy, List.any_eq_true.2 ⟨(x, i), List.mem_zipIdx_iff_getElem?.2 hx, ?_⟩⟩
        simp only [Nat.blt_eq.mpr hij, hnf, Bool.not_false, Bool.true_and, hd, beq_self_eq_true, h1, h2, Bool.true_or]
      · rfl
    · unfold lateP
      split
      · rename_i d hd
        refine List.any_eq_true.2 ⟨(y, j), List.mem_zipIdx_iff_getElem?.2 hy, List.any_eq_true.2 ⟨(x, i), List.mem_zipIdx_iff_getElem?.2 hx, ?_⟩⟩
        simp only [Nat.blt_eq.mpr hij, hnf, Bool.not_false, Bool.true_and, hd, beq_self_eq_true, h1, h2, hs, Bool.true_or]
      · rfl
theorem pair_unord {ops : List Oper} {i j : Nat} {x y : Oper} {lt : Option WS} (hlt : lt.isSome = late ops) (hij : i < j) (hx : ops[i]? = some x) (hy : ops[j]? = some y) (h : pairOk ops (befores ops []) i j x y = true) (hn : ¬ ((befores ops []).getD j 0).testBit i = true) : Unord ops lt (mixed ops) x y := by
  obtain ⟨m1, m2⟩ := mix_at hij hx hy hn
  obtain ⟨l1, l2⟩ := late_at hij hx hy hn
  unfold pairOk at h
  rw [Bool.or_eq_true] at h
  rcases h with h | h
  · exact absurd h hn
  · simp only [Bool.and_eq_true] at h
    obtain ⟨⟨⟨h1, h2⟩, h3⟩, h4⟩ := h
    refine ⟨?_, ?_, ?_, ?_, ?_⟩
    · intro d hd
      rw [hd] at h1
      simp only [Bool.not_eq_true', Bool.or_eq_false_iff] at h1
      refine ⟨fun hm => ?_, fun e => ?_⟩
      · rw [List.contains_iff_mem.2 hm] at h1; cases h1.1
      · rw [e] at h1; simp at h1
    · intro d hd hm
      rw [hd] at h2
      simp only [Bool.not_eq_true'] at h2
      rw [List.contains_iff_mem.2 hm] at h2; cases h2
    · cases e1 : ends ops x with
      | false => exact .inl rfl
      | true =>
        cases e2 : ends ops y with
        | false => exact .inr (.inl rfl)
        | true => rw [e1, e2] at h3; exact .inr (.inr (by simpa using h3))
    · intro e1
      cases e2 : memOp y with
      | false => exact .inl rfl
      | true =>
        rw [e1, e2] at h4
        simp only [Bool.and_self, Bool.true_or, Bool.not_true, Bool.false_or, Bool.and_eq_true, Bool.or_eq_true] at h4
        rcases h4 with ⟨h5, h6 | h6⟩ | ⟨h5, h6 | h6⟩
        · exact .inr (.inl ⟨Option.isSome_iff_exists.1 (hlt.trans h5), h6.1, h6.2, (l1 h6).1, (l1 h6).2⟩)
        · exact absurd h6.1 (noLoad e1)
        · exact .inr (.inr ⟨⟨h5, m1 ⟨h6.1, h6.2⟩⟩, h6.1, h6.2⟩)
        · exact absurd h6.1 (noLoad e1)
    · intro e1
      cases e2 : memOp x with
      | false => exact .inl rfl
      | true =>
        rw [e1, e2] at h4
        simp only [Bool.and_self, Bool.or_true, Bool.not_true, Bool.false_or, Bool.and_eq_true, Bool.or_eq_true] at h4
        rcases h4 with ⟨h5, h6 | h6⟩ | ⟨h5, h6 | h6⟩
        · exact absurd h6.2 (noLoad e1)
        · exact .inr (.inl ⟨Option.isSome_iff_exists.1 (hlt.trans h5), h6.2, h6.1, (l2 h6).1, (l2 h6).2⟩)
        · rcases h6.2 with h | h
          · exact absurd h (noLoad e1)
          · exact absurd h (noAlloc e1)
        · exact .inr (.inr ⟨⟨h5, m2 ⟨h6.1, h6.2⟩⟩, h6.2, h6.1⟩)

/-! ### what is still to be done -/
def rest (n : Nat) (l : Array Bool) : List Nat := (List.range n).filter fun k => !l.getD k true
def opsAt (ops : Array Oper) (L : List Nat) : List Oper := L.filterMap fun k => ops[k]?

theorem rest_sorted (n : Nat) (l : Array Bool) : (rest n l).Pairwise (· < ·) := List.Pairwise.filter _ (List.pairwise_lt_range)
theorem mem_rest {n : Nat} {l : Array Bool} (hl : l.size = n) {k : Nat} : k ∈ rest n l ↔ k < n ∧ ¬ Listed l k := by
  unfold rest Listed
  simp only [List.mem_filter, List.mem_range, Bool.not_eq_true']
  constructor
  · rintro ⟨h1, h2⟩
    refine ⟨h1, ?_⟩
    simp only [Array.getD_eq_getD_getElem?] at *
    rw [Array.getElem?_eq_getElem (by omega)] at *
    simp only [Option.getD_some] at *
    rw [h2]; simp
  · rintro ⟨h1, h2⟩
    refine ⟨h1, ?_⟩
    simp only [Array.getD_eq_getD_getElem?] at *
    rw [Array.getElem?_eq_getElem (by omega)] at *
    simpa using h2
theorem rest_take {n : Nat} {l : Array Bool} {i : Nat} {A B : List Nat} (hl : l.size = n) (h : rest n l = A ++ i :: B) : rest n (l.setIfInBounds i true) = A ++ B := by
  have hs := rest_sorted n l
  rw [h] at hs
  have hin : i ∈ rest n l := by rw [h]; simp
  have h1 : rest n (l.setIfInBounds i true) = (rest n l).filter (fun k => !(k == i)) := by
    unfold rest
    rw [List.filter_filter]
    apply List.filter_congr
    intro k hk
    by_cases hki : k = i
    · subst hki
      have : k < l.size := by rw [hl]; exact ((mem_rest hl).1 hin).1
      simp [Array.getD_eq_getD_getElem?, this]
    · have : i ≠ k := fun e => hki e.symm
      simp [Array.getD_eq_getD_getElem?, Array.getElem?_setIfInBounds_ne this, hki]
  rw [h1, h, List.filter_append, List.filter_cons]
  rw [List.pairwise_append] at hs
  obtain ⟨_, hs2, hs3⟩ := hs
  rw [List.pairwise_cons] at hs2
  have hA : A.filter (fun k => !(k == i)) = A := List.filter_eq_self.2 fun k hk => by
    have := hs3 k hk i (by simp)
    simp; omega
  have hB : B.filter (fun k => !(k == i)) = B := List.filter_eq_self.2 fun k hk => by
    have := hs2.1 k hk
    simp; omega
  rw [hA, hB]; simp
theorem listed_set {l : Array Bool} {i k : Nat} (h : Listed (l.setIfInBounds i true) k) : Listed l k ∨ k = i := by
  by_cases hki : k = i
  · exact .inr hki
  · have : i ≠ k := fun e => hki e.symm
    unfold Listed at *
    rw [Array.getD_eq_getD_getElem?, Array.getElem?_setIfInBounds_ne this, ← Array.getD_eq_getD_getElem?] at h
    exact .inl h
theorem listed_more {l : Array Bool} {i k : Nat} (h : Listed l k) : Listed (l.setIfInBounds i true) k := by
  unfold Listed at *
  rw [Array.getD_eq_getD_getElem?] at *
  by_cases hki : k = i
  · subst hki
    cases hk : l[k]? with
    | none => rw [hk] at h; cases h
    | some b =>
      have : k < l.size := (Array.getElem?_eq_some_iff.1 hk).1
      rw [Array.getElem?_setIfInBounds_self_of_lt this]; rfl
  · rw [Array.getElem?_setIfInBounds_ne (fun e => hki e.symm)]; exact h

theorem ready_iff {ops : Array Oper} {l : Array Bool} {i : Nat} (hl : l.size = ops.size) : i ∈ Region.ready .any ops l ↔ i ∈ rest ops.size l ∧ Heard ops.toList l i := by
  unfold Region.ready rest
  simp only [List.mem_filter, List.mem_range, Bool.and_eq_true, Bool.not_eq_true']
  constructor
  · rintro ⟨h1, h2, h3⟩
    refine ⟨⟨h1, h2⟩, ?_⟩
    intro o ho e he hb
    rw [Array.getElem?_toList] at ho
    rw [ho] at h3
    simp only [Option.map_some, Option.getD_some] at h3
    have := (Array.all_eq_true'.1 h3) e (by simpa using he)
    rw [hb] at this
    simp only [Bool.not_true, Bool.false_or] at this
    exact this
  · rintro ⟨⟨h1, h2⟩, h3⟩
    refine ⟨h1, h2, ?_⟩
    rw [Array.getElem?_eq_getElem h1]
    simp only [Option.map_some, Option.getD_some]
    refine Array.all_eq_true'.2 fun e he => ?_
    cases hb : Region.binds .any e with
    | false => rfl
    | true =>
      have := h3 ops[i] (by rw [Array.getElem?_toList, Array.getElem?_eq_getElem h1]) e (by simpa using he) hb
      simp only [Bool.not_true, Bool.false_or]
      exact this

theorem rest_ready {ops : Array Oper} {l : Array Bool} (hreg : regionOk ops.toList = true) (hl : l.size = ops.size) (hr : Region.ready .any ops l = []) : rest ops.size l = [] := by
  cases h : rest ops.size l with
  | nil => rfl
  | cons k r =>
    exfalso
    have hk : k ∈ rest ops.size l := by rw [h]; simp
    have hs := rest_sorted ops.size l
    rw [h, List.pairwise_cons] at hs
    have : k ∈ Region.ready .any ops l := by
      rw [ready_iff hl]
      refine ⟨hk, ?_⟩
      intro o ho e he hb
      have hlt := region_back hreg ho e he hb
      cases hx : l.getD e.on false with
      | true => exact hx
      | false =>
        have hm : e.on ∈ rest ops.size l := (mem_rest hl).2 ⟨by have := ((mem_rest hl).1 hk).1; omega, fun hc => by unfold Listed at hc; rw [hx] at hc; cases hc⟩
        rw [h] at hm
        rcases List.mem_cons.1 hm with e1 | e1
        · omega
        · have := hs.1 _ e1; omega
    rw [hr] at this
    cases this

theorem drew_rel {G : Gh} {st : St} {a : Act} {w : World} (n : Nat) (h : Rel P B G nt st a w) : Rel P B G nt st a { w with drawn := n } :=
  ⟨⟨h.ok.fin, h.ok.new, ⟨h.ok.held.lt, h.ok.held.is⟩⟩, ⟨h.heap.dom, h.heap.blk, h.heap.inj, h.heap.lim⟩, ⟨h.own.slot, h.own.cell, h.own.dom⟩, h.env, h.size, h.defers⟩
theorem drew_ext (G : Gh) (w : World) (n : Nat) : Ext G w G { w with drawn := n } :=
  ⟨rfl, rfl, rfl, Nat.le_refl _, fun _ _ _ h => h, fun _ _ h => h, fun _ => Nat.le_refl _, fun _ _ h => ⟨rfl, rfl, h⟩⟩
theorem Rel.eq {G : Gh} {st st' : St} {a : Act} {w : World} (h : Rel P B G nt st a w) (e : EqSt st st') : Rel P B G nt st' a w := by
  refine ⟨h.ok, e.H ▸ h.heap, ⟨?_, ?_, ?_⟩, ?_, h.size, h.defers⟩
  · intro s hs; rw [← e.env]; exact h.own.slot s ((e.own _).2 hs)
  · intro id off b k cs hm hf hk hb; exact h.own.cell id off b k cs ((e.own _).2 hm) hf (by rw [e.H]; exact hk) hb
  · intro id off hm; rw [← e.H]; exact h.own.dom id off ((e.own _).2 hm)
  · intro s; rw [← e.env]; exact h.env s

/-- Places are kept. -/
theorem rel_holes {G : Gh} {st : St} {a : Act} {w : World} (h : Rel P B G nt st a w) (m : Nat) : Rel P B G nt { st with H := st.H ++ List.replicate m none } a w := by
  have key : ∀ id b k, G.f id = some b → (st.H ++ List.replicate m none)[id]? = some (some k) → st.H[id]? = some (some k) := by
    intro id b k hf hk
    rw [List.getElem?_append_left (h.heap.dom id b hf).lt] at hk
    exact hk
  exact ⟨h.ok, ⟨fun id b hf => (h.heap.dom id b hf).append _, fun id b k hf hk => h.heap.blk id b k hf (key id b k hf hk), fun i j b k l h1 h2 h3 h4 => h.heap.inj i j b k l h1 h2 (key i b k h1 h3) (key j b l h2 h4), fun id b k hf hk => h.heap.lim id b k hf (key id b k hf hk)⟩,
    ⟨h.own.slot, fun id off b k cs hm hf hk hb => h.own.cell id off b k cs hm hf (key id b k hf hk) hb, fun id off hm => (h.own.dom id off hm).append _⟩, h.env, h.size, h.defers⟩

theorem any_sound {c : Oper → CallA} {ro : Option Nat} {m : Nat} {base : Nat} {ops : Array Oper} {lt : Option WS} (hlate : lt.isSome = late ops.toList) {st' : St} {G0 : Gh} {w0 : World} {Q : Exit → Act → World → Prop} (hN : NoNum P) (hcall : ∀ o, CallSound P (c o)) (hmx : mixed ops.toList = true → (∀ o, mixAt ops.toList o = true → FullLock (c o) ∧ CallFill (c o)) ∧ ∀ o, CallLen (c o)) (hreg : regionOk ops.toList = true)
    (hQ : ∀ a' w' G', Rel P B G' nt st' a' w' → Ext G0 w0 G' w' → Q Exit.normal a' w') : ∀ (fuel : Nat) (l : Array Bool) (st stX : St) (G : Gh) (a : Act) (w : World), (rest ops.size l).length = fuel → l.size = ops.size →
      (∀ k, Listed l k → Heard ops.toList l k) → runOps c P nt (some (base, lt)) ops.toList (opsAt ops (rest ops.size l)) st = some stX → EqSt stX st' →
      (mixed ops.toList = true → base + allocs ops.toList ≤ st.H.length) → Rel P B G nt st a w → Ext G0 w0 G w → wpAnyIn (fw ro) m P .any ops Q fuel l a w := by
  intro fuel
  induction fuel with
  | zero =>
    intro l st stX G a w hf hl hcl hrun heq hba hR hE
    have hnil : rest ops.size l = [] := List.length_eq_zero_iff.1 hf
    rw [hnil] at hrun
    simp only [opsAt, List.filterMap_nil, runOps, Option.some.injEq] at hrun
    subst hrun
    refine ⟨?_, hQ a w G (hR.eq heq) hE⟩
    cases hr : Region.ready .any ops l with
    | nil => rfl
    | cons k r =>
      have : k ∈ Region.ready .any ops l := by rw [hr]; simp
      rw [ready_iff hl, hnil] at this
      cases this.1
  | succ fuel ih =>
    intro l st stX G a w hf hl hcl hrun heq hba hR hE
    refine ⟨fun h => ?_, ?_⟩
    · rw [rest_ready hreg hl h] at hf; simp at hf
    · intro i hi
      rw [ready_iff hl] at hi
      obtain ⟨hin, hheard⟩ := hi
      obtain ⟨A, B1, hAB⟩ := List.append_of_mem hin
      have hsorted := rest_sorted ops.size l
      rw [hAB] at hsorted
      have hlt := ((mem_rest hl).1 hin).1
      obtain ⟨o, ho⟩ : ∃ o, ops[i]? = some o := ⟨ops[i], Array.getElem?_eq_getElem hlt⟩
      have hsplit : opsAt ops (rest ops.size l) = opsAt ops A ++ o :: opsAt ops B1 := by
        rw [hAB]; unfold opsAt; rw [List.filterMap_append, List.filterMap_cons_some (f := fun k => ops[k]?) ho]
      have hnext : rest ops.size (l.setIfInBounds i true) = A ++ B1 := rest_take hl hAB
      rw [hsplit] at hrun
      rw [runOps_append] at hrun
      -- ahead of it
      have hun : ∀ x ∈ opsAt ops A, Unord ops.toList lt (mixed ops.toList) x o := by
        intro x hx
        unfold opsAt at hx
        obtain ⟨k, hk, hkx⟩ := List.mem_filterMap.1 hx
        have hkr : k ∈ rest ops.size l := by rw [hAB]; simp [hk]
        rw [List.pairwise_append] at hsorted
        have hki : k < i := hsorted.2.2 k hk i (by simp)
        obtain ⟨h1, h2⟩ := region_pair hreg (i := k) (j := i) (x := x) (y := o) (by rw [Array.getElem?_toList]; exact hkx) (by rw [Array.getElem?_toList]; exact ho) hki
        refine pair_unord hlate hki (by rw [Array.getElem?_toList]; exact hkx) (by rw [Array.getElem?_toList]; exact ho) h1 fun hm => ?_
        exact ((mem_rest hl).1 hkr).2 (befores_heard hcl ops.toList [] (fun q => by simp) (fun j _ q hq => by simp at hq) i hheard k hm)
      cases hrA : runOps c P nt (some (base, lt)) ops.toList (opsAt ops A) st with
      | none => rw [hrA] at hrun; cases hrun
      | some stA =>
        rw [hrA] at hrun
        simp only [Option.bind_some, runOps] at hrun
        split at hrun
        case h_2 => cases hrun
        rename_i stB hstB
        have hvalid : ∀ id, Asks st.env o id → Live st.H id := by
          rintro id (⟨t, p, off, _, e2⟩ | ⟨_, x, y, _, e2, e3⟩)
          · have := hR.env.opd e2
            cases hv : a.eval p <;> rw [hv] at this <;> cases this
            rename_i b hfb
            exact hR.heap.dom _ _ hfb
          · unfold mapAsk at e3
            split at e3
            · injection e3 with e3; subst e3
              have := hR.env.opd e2
              cases hv : a.eval x <;> rw [hv] at this <;> cases this
              rename_i b hfb
              exact hR.heap.dom _ _ hfb
            · cases e3
        obtain ⟨s1, s2, h1, h2, h3⟩ := front (opsAt ops A) hrA hstB hun hmx hba hvalid
        obtain ⟨stY, h4, h5⟩ := runOps_eq (opsAt ops B1) h3.symm hrun
        have hrest : runOps c P nt (some (base, lt)) ops.toList (opsAt ops (rest ops.size (l.setIfInBounds i true))) s1 = some stY := by
          rw [hnext]
          have : opsAt ops (A ++ B1) = opsAt ops A ++ opsAt ops B1 := by unfold opsAt; rw [List.filterMap_append]
          rw [this, runOps_append, h2]
          exact h4
        have hcl' : ∀ k, Listed (l.setIfInBounds i true) k → Heard ops.toList (l.setIfInBounds i true) k := by
          intro k hk o' ho' e he hb
          rcases listed_set hk with h | rfl
          · exact listed_more (hcl k h o' ho' e he hb)
          · exact listed_more (hheard o' ho' e he hb)
        have hlen : (rest ops.size (l.setIfInBounds i true)).length = fuel := by
          rw [hnext]
          rw [hAB] at hf
          simp only [List.length_append, List.length_cons] at hf ⊢
          omega
        have next : ∀ a' w' G', Rel P B G' nt s1 a' w' → Ext G0 w0 G' w' → wpAnyIn (fw ro) m P .any ops Q fuel (l.setIfInBounds i true) a' w' := fun a' w' G' hR' hE' =>
          ih _ s1 stY G' a' w' hlen (by simpa using hl) hcl' hrest (h5.symm.trans heq) (fun e => Nat.le_trans (hba e) (stepW_len ((hmx e).2 o) h1)) hR' hE'
        unfold wpOpIn
        rw [ho]
        simp only
        unfold stepW at h1
        split at h1
        · rename_i hw
          rw [yielded_rel (w := w) hR.env hw, if_pos rfl]
          exact wpIn_of_wp (not_defer h1) (op_wp hN (hcall o) hR h1 fun a' w' G' hR' hE' => next a' w' G' hR' (hE.trans hE'))
        · rename_i hw
          rw [yielded_rel (w := w) hR.env hw]
          simp only [Bool.false_eq_true, if_false]
          exact ⟨fun _ _ => trivial, next _ _ G (unwanted_put hR h1) hE⟩
        · cases h1

theorem draw_thm (hm : P.follows .mixedOrders = true) (hN : NoNum P) : DrawThm P := by
  intro c hcall ro m B nt id ops st st' G a w hreg hmx lt hlt hrun hR Q hQ
  refine wpIn_region_any hm ?_
  have hrest : rest ops.size (Array.replicate ops.size false) = List.range ops.size := by
    unfold rest
    refine List.filter_eq_self.2 fun k hk => ?_
    have : k < ops.size := List.mem_range.1 hk
    simp [Array.getD_eq_getD_getElem?, this]
  have hops : opsAt ops (List.range ops.size) = ops.toList := by
    have : ∀ l : List Oper, (List.range l.length).filterMap (fun k => l[k]?) = l := by
      intro l
      induction l with
      | nil => rfl
      | cons o l ih =>
        rw [List.length_cons, List.range_succ_eq_map, List.filterMap_cons_some (f := fun k => (o :: l)[k]?) (a := 0) (b := o) rfl, List.filterMap_map]
        congr 1
    have := this ops.toList
    unfold opsAt
    simpa using this
  refine any_sound hlt (st' := st') (G0 := G) (w0 := w) hN hcall hmx hreg hQ ops.size _ _ st' G a _ (by rw [hrest, List.length_range]) (by simp) ?_ (by rw [hrest, hops]; exact hrun) ⟨fun _ => rfl, rfl, fun _ => Iff.rfl⟩ (fun _ => by rw [List.length_append, List.length_replicate]; exact Nat.le_refl _) (drew_rel _ (rel_holes hR _)) (drew_ext _ _ _)
  · intro k hk
    unfold Listed at hk
    rw [Array.getD_eq_getD_getElem?] at hk
    by_cases hlt : k < ops.size
    · simp [hlt] at hk
    · simp [hlt] at hk

end
end Go.Proofs.YtklecelgejlihaaGreatDoor.Am

/- The abstract machine is right, twentieth part: what is looked up in a program's text. -/
namespace Go.Proofs.YtklecelgejlihaaGreatDoor.Am

def funcOk (fn : Func) : Bool :=
  !(fn.name == "runtime.NumGoroutine") && match fn.body with
    | some c => codeOk c
    | none => true
def progOk (P : Program) : Bool := P.follows .mixedOrders && P.funcs.all funcOk

theorem pok_of {P : Program} (h : progOk P = true) : POk P := by
  unfold progOk at h
  rw [Bool.and_eq_true] at h
  have hall : ∀ (f : Nat) (fn : Func), P.funcs[f]? = some fn → funcOk fn = true := by
    intro f fn hf
    exact (Array.all_eq_true'.1 h.2) fn (Array.mem_of_getElem? hf)
  have hN : NoNum P := by
    intro f fn hf
    have := hall f fn hf
    unfold funcOk at this
    rw [Bool.and_eq_true] at this
    simpa using this.1
  refine ⟨hN, ?_, draw_thm h.1 hN⟩
  intro f fn c hf hc
  have := hall f fn hf
  unfold funcOk at this
  rw [hc, Bool.and_eq_true] at this
  exact this.2

end Go.Proofs.YtklecelgejlihaaGreatDoor.Am

/- The program is one that the abstract machine is right of. -/
namespace Go.Proofs.YtklecelgejlihaaGreatDoor
theorem pok : Am.POk Tryz.prog := Am.pok_of (by kernel_rfl)
end Go.Proofs.YtklecelgejlihaaGreatDoor
