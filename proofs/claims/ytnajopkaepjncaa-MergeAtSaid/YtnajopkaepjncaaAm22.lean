/- The abstract machine is right, eighteenth part: two operations that have nothing to do with each other change places. -/
import Derived.Test.YtnajopkaepjncaaAm21
namespace Go.Proofs.Ytnajopkaepjncaa.Am
set_option linter.unusedVariables false
set_option linter.unusedSimpArgs false
open Go.RowKit

section
variable {P : Program} {call : CallA} {ops : List Oper} {nt base : Nat} {lt : Bool}

def coreW (call : CallA) (P : Program) (pre : Option (Nat × Bool)) (ops : List Oper) (o : Oper) (env : List (Nat × AV)) (H : List (Option Blk)) (own : List Loc) : Option Res :=
  match wantedA ops env o with
  | some true => coreP call P pre ops o env H own
  | some false => some ⟨.tup [], H, own, false⟩
  | none => none
def putEnv (env : List (Nat × AV)) (dst : Option Nat) (v : AV) : List (Nat × AV) :=
  match dst with
  | none => env
  | some d => (d, v) :: env
def putOwn (own : List Loc) (gives : Bool) (dst : Option Nat) : List Loc :=
  match dst with
  | none => own
  | some d => cond gives (give own (.slot d)) (drop own (.slot d))

theorem put_iff {r : Res} {env : List (Nat × AV)} {dst : Option Nat} {st : St} : r.put nt env dst = some st ↔ (∀ d, dst = some d → d < nt) ∧ st = ⟨putEnv env dst r.val, r.H, putOwn r.own r.gives dst⟩ := by
  cases dst with
  | none => simp only [Res.put, putEnv, putOwn, Option.some.injEq]; exact ⟨fun h => ⟨fun d e => (by cases e), h.symm⟩, fun h => h.2.symm⟩
  | some d =>
    simp only [Res.put, putEnv, putOwn]
    constructor
    · intro h
      split at h
      · rename_i hl; injection h with h; exact ⟨fun q e => by injection e with e; omega, h.symm⟩
      · cases h
    · rintro ⟨h1, h2⟩
      rw [if_pos (h1 d rfl), h2]

theorem stepW_iff {pre : Option (Nat × Bool)} {o : Oper} {st st' : St} : stepW call P nt pre ops o st = some st' ↔ ∃ r, coreW call P pre ops o st.env st.H st.own = some r ∧ r.put nt st.env o.dst = some st' := by
  unfold stepW coreW
  cases hw : wantedA ops st.env o with
  | none => exact ⟨fun h => (by cases h), fun ⟨r, hr, h⟩ => (by cases hr)⟩
  | some b =>
    cases b with
    | false => exact ⟨fun h => ⟨_, rfl, h⟩, fun ⟨r, hr, h⟩ => by injection hr with hr; rw [← hr] at h; exact h⟩
    | true =>
      simp only
      unfold stepOp
      constructor
      · intro h
        split at h
        · rename_i r hr; exact ⟨r, hr, h⟩
        · cases h
      · intro h
        obtain ⟨r, hr, h⟩ := h
        rw [hr]; exact h

theorem wanted_env {env env' : List (Nat × AV)} {o : Oper} (h : ∀ s ∈ reads ops o, look env s = look env' s) : wantedA ops env o = wantedA ops env' o := by
  unfold wantedA
  split
  · rfl
  · rename_i j want hg
    split
    · rename_i d op ty pos after guard hj
      rw [h d (by unfold reads guardSlot; rw [hg]; simp only; rw [hj]; simp)]
    · rfl
theorem newAt_env {env env' : List (Nat × AV)} {H : List (Option Blk)} {own : List Loc} {o : Oper} {id : Nat} (h : ∀ s ∈ opSlots o, look env s = look env' s) : newAt P o env H own id = newAt P o env' H own id := by
  unfold newAt
  split
  · split
    · rfl
    · rename_i e x hx
      rw [evalO_env (env := env) (env' := env') fun s hs => h s (by unfold opSlots; exact List.mem_filterMap.2 ⟨x, by rw [hx]; simp [Op.operands], by rw [hs]⟩)]
    · rfl
  · rfl
theorem newSl_env {e : TypeId} {env env' : List (Nat × AV)} {H : List (Option Blk)} {own : List Loc} {o : Oper} (h : ∀ s ∈ opSlots o, look env s = look env' s) : newSl P e o.op env H own = newSl P e o.op env' H own := by
  have hx : ∀ x ∈ o.op.operands.toList, evalO env x = evalO env' x := fun x hm => evalO_env fun s e => h s (by unfold opSlots; exact List.mem_filterMap.2 ⟨x, hm, by rw [e]⟩)
  unfold newSl
  split
  · rename_i t l c e1
    rw [hx l (by rw [e1]; simp [Op.operands]), hx c (by rw [e1]; simp [Op.operands])]
  · rename_i args argTypes e1
    split
    · rename_i s x ts tx hargs htys
      have ea : args = #[s, x] := by apply Array.ext'; simpa using hargs
      rw [hx s (by rw [e1, ea]; simp [Op.operands, Call.operands]), hx x (by rw [e1, ea]; simp [Op.operands, Call.operands])]
    · rfl
  · rfl
theorem coreP_env {pre : Option (Nat × Bool)} {env env' : List (Nat × AV)} {H : List (Option Blk)} {own : List Loc} {o : Oper} (h : ∀ s ∈ opSlots o, look env s = look env' s) : coreP call P pre ops o env H own = coreP call P pre ops o env' H own := by
  unfold coreP
  rw [core_env h]
  split
  · split
    · exact newSl_env h
    · rfl
  · rename_i b lt
    have hl : lateOk b o env = lateOk b o env' := by
      have hx : ∀ x ∈ o.op.operands.toList, evalO env x = evalO env' x := fun x hm => evalO_env fun s e => h s (by unfold opSlots; exact List.mem_filterMap.2 ⟨x, hm, by rw [e]⟩)
      unfold lateOk
      split
      · rename_i t a e; rw [hx a (by rw [e]; simp [Op.operands])]
      · rename_i t a x e; rw [hx a (by rw [e]; simp [Op.operands])]
      · rfl
    rw [hl]
    congr 1
    split
    · split
      · exact newAt_env h
      · rfl
    · rfl
theorem coreW_env {pre : Option (Nat × Bool)} {env env' : List (Nat × AV)} {H : List (Option Blk)} {own : List Loc} {o : Oper} (h : ∀ s ∈ reads ops o, look env s = look env' s) : coreW call P pre ops o env H own = coreW call P pre ops o env' H own := by
  unfold coreW
  rw [wanted_env h, coreP_env fun s hs => h s (by unfold reads; exact List.mem_append_right _ hs)]
theorem newAt_some {env : List (Nat × AV)} {H : List (Option Blk)} {own : List Loc} {o : Oper} {id : Nat} {r : Res} (h : newAt P o env H own id = some r) :
    ∃ k, H[id]? = some none ∧ r = ⟨.ptr id 0, H.set id (some k), own, false⟩ ∧ ∀ H' own', H'[id]? = some none → newAt P o env H' own' id = some ⟨.ptr id 0, H'.set id (some k), own', false⟩ := by
  unfold newAt at h ⊢
  split at h
  case h_2 => cases h
  rename_i hh
  split at h
  · split at h
    · rename_i z hz
      injection h with h
      exact ⟨_, hh, h.symm, fun H' own' e => by rw [e]⟩
    · cases h
  · split at h
    · rename_i v hv
      split at h
      · rename_i hp
        injection h with h
        exact ⟨_, hh, h.symm, fun H' own' e => by rw [e]; simp only [if_pos hp]⟩
      · cases h
    · cases h
  · cases h
/-- With places kept: an operation that makes a block, or 'core'. -/
theorem coreP_cases {env : List (Nat × AV)} {H : List (Option Blk)} {own : List Loc} {o : Oper} {r : Res} (h : coreP call P (some (base, lt)) ops o env H own = some r) :
    (allocOp o = false ∧ core call P ops o env H own = some r ∧ (lt = true → lateOk base o env = true) ∧ ∀ H' own', coreP call P (some (base, lt)) ops o env H' own' = core call P ops o env H' own') ∨
    (allocOp o = true ∧ ∃ d k, o.dst = some d ∧ rank ops d = some k ∧ newAt P o env H own (base + k) = some r ∧ ∀ H' own', coreP call P (some (base, lt)) ops o env H' own' = newAt P o env H' own' (base + k)) := by
  unfold coreP at h ⊢
  cases ha : allocOp o with
  | false =>
    rw [ha] at h
    simp only [cond_false] at h ⊢
    cases hl : (lt && !(lateOk base o env)) with
    | true => rw [hl] at h; cases h
    | false =>
      rw [hl] at h
      refine .inl ⟨trivial, h, fun e => ?_, fun _ _ => rfl⟩
      rw [e] at hl
      simpa using hl
  | true =>
    rw [ha] at h
    simp only [cond_true] at h ⊢
    split at h
    · rename_i d hd
      split at h
      · rename_i k hk
        exact .inr ⟨trivial, d, k, hd, hk, h, fun _ _ => by simp only [hk]⟩
      · cases h
    · cases h
theorem coreW_own {env : List (Nat × AV)} {H : List (Option Blk)} {own : List Loc} {o : Oper} {r : Res} (he : ends ops o = false) (h : coreW call P (some (base, lt)) ops o env H own = some r) :
    r.own = own ∧ ∀ own', coreW call P (some (base, lt)) ops o env H own' = some ⟨r.val, r.H, own', r.gives⟩ := by
  unfold coreW at *
  split at h
  · rcases coreP_cases h with ⟨_, h1, hlate, h2⟩ | ⟨_, d, k, _, _, h1, h2⟩
    · obtain ⟨q1, q2⟩ := core_own he h1
      exact ⟨q1, fun own' => by simp only [h2]; exact q2 own'⟩
    · obtain ⟨b, q1, q2, q3⟩ := newAt_some h1
      subst q2
      exact ⟨rfl, fun own' => by simp only [h2]; exact q3 H own' q1⟩
  · injection h with h; subst h; exact ⟨rfl, fun _ => rfl⟩
  · cases h
theorem coreW_frame {S : Nat → Prop} {env : List (Nat × AV)} {H : List (Option Blk)} {own own' : List Loc} {o : Oper} {r : Res} (hS : ∀ s, S s → s ∉ reads ops o) (hl : Like S own own') (h : coreW call P (some (base, lt)) ops o env H own = some r) :
    ∃ oo, coreW call P (some (base, lt)) ops o env H own' = some ⟨r.val, r.H, oo, r.gives⟩ ∧ Like S r.own oo ∧ ∀ s, S s → (Loc.slot s ∈ r.own ↔ Loc.slot s ∈ own) ∧ (Loc.slot s ∈ oo ↔ Loc.slot s ∈ own') := by
  unfold coreW at *
  split at h
  · rcases coreP_cases h with ⟨_, h1, hlate, h2⟩ | ⟨_, d, k, _, _, h1, h2⟩
    · obtain ⟨oo, q1, q2, q3⟩ := core_frame (S := S) (fun s hs hm => hS s hs (by unfold reads; exact List.mem_append_right _ hm)) hl h1
      exact ⟨oo, by simp only [h2]; exact q1, q2, q3⟩
    · obtain ⟨b, q1, q2, q3⟩ := newAt_some h1
      subst q2
      exact ⟨own', by simp only [h2]; exact q3 H own' q1, hl, fun s _ => ⟨Iff.rfl, Iff.rfl⟩⟩
  · injection h with h; subst h; exact ⟨own', rfl, hl, fun s _ => ⟨Iff.rfl, Iff.rfl⟩⟩
  · cases h
theorem coreW_heap {env : List (Nat × AV)} {H : List (Option Blk)} {own : List Loc} {o : Oper} {r : Res} (hh : heapOp o = false) (ha : allocOp o = false) (h : coreW call P (some (base, lt)) ops o env H own = some r) :
    r.H = H ∧ ∀ H', (∀ t a id off, o.op = .load t a → evalO env a = some (.ptr id off) → (Live H id ∨ ∃ r', core call P ops o env H own = some r') → H'[id]? = H[id]?) → coreW call P (some (base, lt)) ops o env H' own = some ⟨r.val, H', r.own, r.gives⟩ := by
  unfold coreW at *
  split at h
  · rcases coreP_cases h with ⟨_, h1, hlate, h2⟩ | ⟨h1, _⟩
    · obtain ⟨q1, q2⟩ := core_heap hh ha h1
      exact ⟨q1, fun H' hyp => by simp only [h2]; exact q2 H' fun t a id off e1 e2 => hyp t a id off e1 e2 (.inr ⟨r, h1⟩)⟩
    · rw [ha] at h1; cases h1
  · injection h with h; subst h; exact ⟨rfl, fun _ _ => rfl⟩
  · cases h
theorem coreW_alloc {env : List (Nat × AV)} {H : List (Option Blk)} {own : List Loc} {o : Oper} {r : Res} (ha : allocOp o = true) (h : coreW call P (some (base, lt)) ops o env H own = some r) :
    (∃ d q k, o.dst = some d ∧ rank ops d = some q ∧ H[base + q]? = some none ∧ r.H = H.set (base + q) (some k) ∧ ∀ H', H'[base + q]? = some none → coreW call P (some (base, lt)) ops o env H' own = some ⟨r.val, H'.set (base + q) (some k), r.own, r.gives⟩) ∨
    (r.H = H ∧ ∀ H', coreW call P (some (base, lt)) ops o env H' own = some ⟨r.val, H', r.own, r.gives⟩) := by
  unfold coreW at *
  split at h
  · rcases coreP_cases h with ⟨h1, _⟩ | ⟨_, d, k, e1, e2, h1, h2⟩
    · rw [ha] at h1; cases h1
    · obtain ⟨b, q1, q2, q3⟩ := newAt_some h1
      subst q2
      exact .inl ⟨d, k, b, e1, e2, q1, rfl, fun H' e => by simp only [h2]; exact q3 H' own e⟩
  · injection h with h; subst h; exact .inr ⟨rfl, fun _ => rfl⟩
  · cases h
theorem core_load_live {env : List (Nat × AV)} {H : List (Option Blk)} {own : List Loc} {o : Oper} {r : Res} {t : TypeId} {a : Operand} {id off : Nat} (e1 : o.op = .load t a) (e2 : evalO env a = some (.ptr id off)) (h : core call P ops o env H own = some r) : Live H id := by
  obtain ⟨dst, op, ty, pos, after, guard⟩ := o
  simp only at e1
  subst e1
  simp only [core, e2] at h
  cases hl : loadA P H t (.ptr id off) with
  | none => rw [hl] at h; cases h
  | some x =>
    unfold loadA at hl
    split at hl
    · simp only at hl
      split at hl
      · rename_i cs hr
        unfold readCells at hr
        split at hr
        · rename_i b hb
          exact ⟨b, hb⟩
        · cases hr
      · cases hl
    · cases hl
theorem rank_inj : ∀ (l : List Oper) {d d' k : Nat}, rank l d = some k → rank l d' = some k → d = d'
  | [], _, _, _, h, _ => by cases h
  | o :: r, d, d', k, h, h' => by
    simp only [rank] at h h'
    cases ha : allocOp o with
    | false => rw [ha] at h h'; exact rank_inj r h h'
    | true =>
      rw [ha] at h h'
      simp only [cond_true] at h h'
      cases h1 : o.dst == some d with
      | true =>
        rw [h1] at h
        injection h with h; subst h
        cases h2 : o.dst == some d' with
        | true =>
          rw [beq_iff_eq] at h1 h2
          rw [h1] at h2; injection h2
        | false =>
          rw [h2] at h'
          simp only [cond_false] at h'
          cases hr : rank r d' with
          | none => rw [hr] at h'; cases h'
          | some q => rw [hr] at h'; simp at h'
      | false =>
        rw [h1] at h
        simp only [cond_false] at h
        cases h2 : o.dst == some d' with
        | true =>
          rw [h2] at h'
          injection h' with h'; subst h'
          cases hr : rank r d with
          | none => rw [hr] at h; cases h
          | some q => rw [hr] at h; simp at h
        | false =>
          rw [h2] at h'
          simp only [cond_false] at h'
          cases hr : rank r d with
          | none => rw [hr] at h; cases h
          | some q =>
            rw [hr] at h
            cases hr' : rank r d' with
            | none => rw [hr'] at h'; cases h'
            | some q' =>
              rw [hr'] at h'
              simp only [Option.map_some, Option.some.injEq] at h h'
              exact rank_inj r hr (by rw [hr']; congr 1; omega)
theorem coreW_late {env : List (Nat × AV)} {H : List (Option Blk)} {own : List Loc} {o : Oper} {r : Res} (hw : wantedA ops env o = some true) (h : coreW call P (some (base, lt)) ops o env H own = some r) (hlt : lt = true) (ha : allocOp o = false) : lateOk base o env = true := by
  unfold coreW at h
  rw [hw] at h
  rcases coreP_cases h with ⟨_, h1, hlate, h2⟩ | ⟨h1, _⟩
  · exact hlate hlt
  · rw [ha] at h1; cases h1
/-- A store, of a block of the region's own. -/
theorem coreW_store {env : List (Nat × AV)} {H : List (Option Blk)} {own : List Loc} {o : Oper} {r : Res} (hs : isStore o = true) (hlt : lt = true) (h : coreW call P (some (base, lt)) ops o env H own = some r) :
    (∀ id, id < base → r.H[id]? = H[id]?) ∧ ∀ id, Live H id → Live r.H id := by
  unfold coreW at h
  split at h
  · rcases coreP_cases h with ⟨_, h1, hlate, h2⟩ | ⟨h1, _⟩
    · have hl := hlate hlt
      obtain ⟨dst, op, ty, pos, after, guard⟩ := o
      cases op with
      | store t a x =>
        simp only [core] at h1
        split at h1
        · rename_i id off v e1 e2
          split at h1
          · rename_i H' hst
            injection h1 with h1; subst h1
            simp only [lateOk, e1] at hl
            have hge : base ≤ id := Nat.ble_eq.mp hl
            simp only
            unfold storeA at hst
            split at hst
            · split at hst
              · split at hst
                · rename_i p q id' off' n' e3 e4 oo b e5 e6
                  injection e3 with e3 e7; subst e3; subst e7
                  injection hst with hst; subst hst
                  exact ⟨fun j hj => by rw [List.getElem?_set_ne (by omega)], fun j hj => hj.set _ _⟩
                · cases hst
              · cases hst
            · cases hst
          · cases h1
        · cases h1
      | _ => cases hs
    · unfold isStore at hs
      unfold allocOp at h1
      split at hs
      · rename_i e; rw [e] at h1; cases h1
      · cases hs
  · injection h with h; subst h; exact ⟨fun _ _ => rfl, fun _ h => h⟩
  · cases h
/-- What lives goes on living where nothing is called or stored. -/
theorem live_step {env : List (Nat × AV)} {H : List (Option Blk)} {own : List Loc} {o : Oper} {r : Res} (hh : heapOp o = false) (h : coreW call P (some (base, lt)) ops o env H own = some r) {id : Nat} (hl : Live H id) : r.H[id]? = H[id]? := by
  cases ha : allocOp o with
  | false => rw [(coreW_heap hh ha h).1]
  | true =>
    rcases coreW_alloc ha h with ⟨d, q, k, _, _, e, e', _⟩ | ⟨e, _⟩
    · rw [e', List.getElem?_set_ne]
      rintro rfl
      obtain ⟨b, hb⟩ := hl
      rw [e] at hb; cases hb
    · rw [e]
theorem mem_putOwn {own : List Loc} {g : Bool} {dst : Option Nat} {l : Loc} : l ∈ putOwn own g dst ↔ (∃ s, dst = some s ∧ l = .slot s ∧ g = true) ∨ (l ∈ own ∧ ∀ s, dst = some s → l ≠ .slot s) := by
  cases dst with
  | none => simp [putOwn]
  | some d =>
    cases g with
    | true =>
      show l ∈ give own _ ↔ _
      rw [mem_give]
      constructor
      · rintro (h | ⟨h1, h2⟩)
        · exact .inl ⟨d, rfl, h, rfl⟩
        · exact .inr ⟨h1, fun s e => by injection e with e; subst e; exact h2⟩
      · rintro (⟨s, e, h, _⟩ | ⟨h1, h2⟩)
        · injection e with e; subst e; exact .inl h
        · exact .inr ⟨h1, h2 d rfl⟩
    | false =>
      show l ∈ drop own _ ↔ _
      rw [mem_drop]
      constructor
      · rintro ⟨h1, h2⟩
        exact .inr ⟨h1, fun s e => by injection e with e; subst e; exact h2⟩
      · rintro (⟨s, e, h, q⟩ | ⟨h1, h2⟩)
        · cases q
        · exact ⟨h1, h2 d rfl⟩
theorem look_putEnv {env : List (Nat × AV)} {dst : Option Nat} {v : AV} (s : Nat) : look (putEnv env dst v) s = if dst = some s then v else look env s := by
  cases dst with
  | none => simp [putEnv]
  | some d =>
    simp only [putEnv, look_cons]
    by_cases h : s = d
    · subst h; simp
    · rw [if_neg h, if_neg (by intro e; injection e with e; exact h e.symm)]

/-- Two operations that have nothing to do with each other. -/
structure Unord (ops : List Oper) (lt : Bool) (x i : Oper) : Prop where
  r1 : ∀ d, x.dst = some d → d ∉ reads ops i ∧ i.dst ≠ some d
  r2 : ∀ d, i.dst = some d → d ∉ reads ops x
  e : ends ops x = false ∨ ends ops i = false
  h1 : heapOp x = true → memOp i = false ∨ (lt = true ∧ isStore x = true ∧ isLoad i = true)
  h2 : heapOp i = true → memOp x = false ∨ (lt = true ∧ isStore i = true ∧ isLoad x = true)

structure EqSt (s t : St) : Prop where
  env : ∀ k, look s.env k = look t.env k
  H : s.H = t.H
  own : ∀ l, l ∈ s.own ↔ l ∈ t.own

theorem memOp_parts {o : Oper} (h : memOp o = false) : heapOp o = false ∧ allocOp o = false ∧ ∀ t a, o.op ≠ .load t a := by
  unfold memOp at h
  rw [Bool.or_eq_false_iff] at h
  refine ⟨h.1, ?_, ?_⟩
  · unfold allocOp
    split
    · rename_i e; rw [e] at h; exact absurd h.2 (by simp)
    · rename_i e; rw [e] at h; exact absurd h.2 (by simp)
    · rfl
  · intro t a e; rw [e] at h; exact absurd h.2 (by simp)
theorem alloc_mem {o : Oper} (h : allocOp o = true) : memOp o = true := by
  cases hm : memOp o with
  | true => rfl
  | false => rw [(memOp_parts hm).2.1] at h; cases h

theorem swap {x i : Oper} {st st1 st2 : St} (hx : stepW call P nt (some (base, lt)) ops x st = some st1) (hi : stepW call P nt (some (base, lt)) ops i st1 = some st2) (u : Unord ops lt x i)
    (hv : ∀ t a id off, i.op = .load t a → evalO st.env a = some (.ptr id off) → Live st.H id) :
    ∃ s1 s2, stepW call P nt (some (base, lt)) ops i st = some s1 ∧ stepW call P nt (some (base, lt)) ops x s1 = some s2 ∧ EqSt s2 st2 := by
  obtain ⟨rx, hcx, hpx⟩ := stepW_iff.1 hx
  obtain ⟨ri, hci, hpi⟩ := stepW_iff.1 hi
  obtain ⟨hnx, rfl⟩ := put_iff.1 hpx
  obtain ⟨hni, rfl⟩ := put_iff.1 hpi
  simp only at hci ⊢
  have henv : coreW call P (some (base, lt)) ops i st.env rx.H (putOwn rx.own rx.gives x.dst) = some ri := by
    rw [← hci]
    apply coreW_env
    intro s hs
    rw [look_putEnv]
    rw [if_neg]
    intro e
    exact (u.r1 s e).1 hs
  -- the heap
  have hH : ∃ Hi, coreW call P (some (base, lt)) ops i st.env st.H (putOwn rx.own rx.gives x.dst) = some ⟨ri.val, Hi, ri.own, ri.gives⟩ ∧ coreW call P (some (base, lt)) ops x st.env Hi st.own = some ⟨rx.val, ri.H, rx.own, rx.gives⟩ := by
    have load_low : ∀ {o : Oper} {H : List (Option Blk)} {own : List Loc} {r : Res} {t : TypeId} {a : Operand} {id off : Nat}, wantedA ops st.env o = some true → coreW call P (some (base, lt)) ops o st.env H own = some r → lt = true → o.op = .load t a → evalO st.env a = some (.ptr id off) → id < base := by
      intro o H own r t a id off hw hc hlt e1 e2
      have := coreW_late hw hc hlt (by unfold allocOp; rw [e1])
      unfold lateOk at this
      rw [e1] at this
      simp only [e2] at this
      exact Nat.blt_eq.mp this
    have load_parts : ∀ {o : Oper}, isLoad o = true → heapOp o = false ∧ allocOp o = false := by
      intro o hl
      unfold isLoad at hl
      unfold heapOp allocOp
      split at hl
      · rename_i e; rw [e]; exact ⟨rfl, rfl⟩
      · cases hl
    by_cases hA : heapOp x = false ∧ allocOp x = false
    · obtain ⟨q1, q2⟩ := coreW_heap hA.1 hA.2 hcx
      rw [q1] at henv
      cases hwx : wantedA ops st.env x with
      | none => unfold coreW at hcx; rw [hwx] at hcx; cases hcx
      | some bx =>
      cases bx with
      | false =>
        have hcx' := hcx
        unfold coreW at hcx'
        rw [hwx] at hcx'
        injection hcx' with hcx'
        subst hcx'
        exact ⟨ri.H, henv, by unfold coreW; rw [hwx]⟩
      | true =>
      refine ⟨ri.H, henv, q2 _ ?_⟩
      intro t a id off e1 e2 hor
      cases hhi : heapOp i with
      | true =>
        rcases u.h2 hhi with h | ⟨h1, h2, _⟩
        · exact absurd e1 ((memOp_parts h).2.2 t a)
        · exact (coreW_store h2 h1 henv).1 id (load_low hwx hcx h1 e1 e2)
      | false =>
        have hlive : Live st.H id := by
          rcases hor with h | ⟨r', h⟩
          · exact h
          · exact core_load_live e1 e2 h
        exact live_step hhi henv hlive
    · by_cases hB : heapOp i = false ∧ allocOp i = false
      · obtain ⟨q1, q2⟩ := coreW_heap hB.1 hB.2 henv
        cases hwi : wantedA ops st.env i with
        | none => unfold coreW at henv; rw [hwi] at henv; cases henv
        | some bi =>
        cases bi with
        | false =>
          have henv' := henv
          unfold coreW at henv'
          rw [hwi] at henv'
          injection henv' with henv'
          subst henv'
          exact ⟨st.H, by unfold coreW; rw [hwi], hcx⟩
        | true =>
        refine ⟨st.H, q2 _ ?_, ?_⟩
        · intro t a id off e1 e2 _
          have hlive := hv t a id off e1 e2
          cases hhx : heapOp x with
          | true =>
            rcases u.h1 hhx with h | ⟨h1, h2, _⟩
            · exact absurd e1 ((memOp_parts h).2.2 t a)
            · exact ((coreW_store h2 h1 hcx).1 id (load_low hwi henv h1 e1 e2)).symm
          | false => exact (live_step hhx hcx hlive).symm
        · rw [q1]; exact hcx
      · -- both make a block
        have hax : allocOp x = true := by
          cases hhx : heapOp x with
          | true =>
            rcases u.h1 hhx with h | ⟨_, _, h⟩
            · exact absurd ⟨(memOp_parts h).1, (memOp_parts h).2.1⟩ hB
            · exact absurd (load_parts h) hB
          | false =>
            cases h : allocOp x with
            | true => rfl
            | false => exact absurd ⟨hhx, h⟩ hA
        have hhi : heapOp i = false := by
          cases hhi : heapOp i with
          | false => rfl
          | true =>
            rcases u.h2 hhi with h | ⟨_, _, h⟩
            · rw [alloc_mem hax] at h; cases h
            · have := (load_parts h).2; rw [hax] at this; cases this
        have hai : allocOp i = true := by
          cases h : allocOp i with
          | true => rfl
          | false => exact absurd ⟨hhi, h⟩ hB
        rcases coreW_alloc hax hcx with ⟨d, q, k, x1, x2, x3, x4, x5⟩ | ⟨x1, x2⟩
        · rcases coreW_alloc hai henv with ⟨d', q', k', y1, y2, y3, y4, y5⟩ | ⟨y1, y2⟩
          · have hne : base + q ≠ base + q' := by
              intro e
              have : q = q' := by omega
              subst this
              have := rank_inj ops x2 y2
              subst this
              exact (u.r1 d x1).2 y1
            rw [x4, List.getElem?_set_ne hne] at y3
            refine ⟨st.H.set (base + q') (some k'), y5 _ y3, ?_⟩
            have := x5 (st.H.set (base + q') (some k')) (by rw [List.getElem?_set_ne hne.symm]; exact x3)
            rw [this, y4, x4, List.set_comm _ _ hne]
          · refine ⟨st.H, y2 _, ?_⟩
            rw [y1]; exact hcx
        · rw [x1] at henv
          refine ⟨ri.H, henv, x2 _⟩
  obtain ⟨Hi, f1, f2⟩ := hH
  -- the ends
  have hne : ∀ d, x.dst = some d → i.dst ≠ some d := fun d e => (u.r1 d e).2
  have hO : ∃ oi, coreW call P (some (base, lt)) ops i st.env st.H st.own = some ⟨ri.val, Hi, oi, ri.gives⟩ ∧ ∃ ox, coreW call P (some (base, lt)) ops x st.env Hi (putOwn oi ri.gives i.dst) = some ⟨rx.val, ri.H, ox, rx.gives⟩ ∧ ∀ l, l ∈ putOwn ox rx.gives x.dst ↔ l ∈ putOwn ri.own ri.gives i.dst := by
    cases hex : ends ops x with
    | false =>
      obtain ⟨q1, q2⟩ := coreW_own hex f2
      obtain ⟨o1, _⟩ := coreW_own hex hcx
      have hlike : Like (fun s => x.dst = some s) (putOwn rx.own rx.gives x.dst) st.own := by
        intro l hl
        rw [mem_putOwn, o1]
        constructor
        · rintro (⟨s, e1, e2, _⟩ | ⟨e, _⟩)
          · exact absurd e1 (hl s e2)
          · exact e
        · intro h
          exact .inr ⟨h, fun s e1 e2 => hl s e2 e1⟩
      obtain ⟨oi, g1, g2, g3⟩ := coreW_frame (S := fun s => x.dst = some s) (fun s hs => (u.r1 s hs).1) hlike f1
      simp only at g1 g2 g3
      refine ⟨oi, g1, putOwn oi ri.gives i.dst, q2 _, ?_⟩
      intro l
      by_cases hl : ∃ s, l = .slot s ∧ x.dst = some s
      · obtain ⟨s, rfl, hs⟩ := hl
        rw [mem_putOwn, mem_putOwn (own := ri.own)]
        have h3 := (g3 s hs).1
        rw [mem_putOwn] at h3
        constructor
        · rintro (⟨s', e1, e2, e3⟩ | ⟨_, e⟩)
          · refine .inr ⟨h3.2 (.inl ⟨s', e1, e2, e3⟩), fun s2 e4 e5 => ?_⟩
            injection e5 with e5; subst e5; exact hne _ hs e4
          · exact absurd rfl (e s hs)
        · rintro (⟨s', e1, e2, e3⟩ | ⟨e, _⟩)
          · injection e2 with e2; subst e2; exact absurd e1 (hne _ hs)
          · rcases h3.1 e with ⟨s', e1, e2, e3⟩ | ⟨_, e2⟩
            · exact .inl ⟨s', e1, e2, e3⟩
            · exact absurd rfl (e2 s hs)
      · have hl' : ∀ s, l = .slot s → ¬ x.dst = some s := fun s e1 e2 => hl ⟨s, e1, e2⟩
        rw [mem_putOwn, mem_putOwn, mem_putOwn (own := ri.own), g2 l hl']
        constructor
        · rintro (⟨s', e1, e2, e3⟩ | ⟨e, _⟩)
          · exact absurd e1 (hl' s' e2)
          · exact e
        · intro e
          exact .inr ⟨e, fun s e1 e2 => hl' s e2 e1⟩
    | true =>
      have hei : ends ops i = false := by
        rcases u.e with h | h
        · rw [hex] at h; cases h
        · exact h
      obtain ⟨q1, q2⟩ := coreW_own hei f1
      simp only at q1 q2
      have hlike : Like (fun s => i.dst = some s) st.own (putOwn st.own ri.gives i.dst) := by
        intro l hl
        rw [mem_putOwn]
        constructor
        · intro h
          exact .inr ⟨h, fun s e1 e2 => hl s e2 e1⟩
        · rintro (⟨s, e1, e2, _⟩ | ⟨e, _⟩)
          · exact absurd e1 (hl s e2)
          · exact e
      obtain ⟨ox, g1, g2, g3⟩ := coreW_frame (S := fun s => i.dst = some s) (fun s hs => u.r2 s hs) hlike f2
      simp only at g1 g2 g3
      refine ⟨st.own, q2 _, ox, g1, ?_⟩
      intro l
      rw [q1]
      by_cases hl : ∃ s, l = .slot s ∧ i.dst = some s
      · obtain ⟨s, rfl, hs⟩ := hl
        rw [mem_putOwn, mem_putOwn]
        have h3 := (g3 s hs).2
        rw [mem_putOwn] at h3
        constructor
        · rintro (⟨s', e1, e2, e3⟩ | ⟨e, _⟩)
          · injection e2 with e2; subst e2; exact absurd hs (hne _ e1)
          · rcases h3.1 e with h | ⟨_, e2⟩
            · exact .inl h
            · exact absurd rfl (e2 s hs)
        · rintro (⟨s', e1, e2, e3⟩ | ⟨_, e⟩)
          · refine .inr ⟨h3.2 (.inl ⟨s', e1, e2, e3⟩), fun s2 e4 e5 => ?_⟩
            injection e5 with e5; subst e5; exact hne _ e4 hs
          · exact absurd rfl (e s hs)
      · have hl' : ∀ s, l = .slot s → ¬ i.dst = some s := fun s e1 e2 => hl ⟨s, e1, e2⟩
        rw [mem_putOwn, mem_putOwn, mem_putOwn, g2 l hl']
        constructor
        · intro e
          exact .inr ⟨e, fun s e1 e2 => hl' s e2 e1⟩
        · rintro (⟨s', e1, e2, e3⟩ | ⟨e, _⟩)
          · exact absurd e1 (hl' s' e2)
          · exact e
  obtain ⟨oi, g1, ox, g2, g3⟩ := hO
  refine ⟨⟨putEnv st.env i.dst ri.val, Hi, putOwn oi ri.gives i.dst⟩, ⟨putEnv (putEnv st.env i.dst ri.val) x.dst rx.val, ri.H, putOwn ox rx.gives x.dst⟩,
    stepW_iff.2 ⟨_, g1, put_iff.2 ⟨hni, rfl⟩⟩, stepW_iff.2 ⟨⟨rx.val, ri.H, ox, rx.gives⟩, ?_, put_iff.2 ⟨hnx, rfl⟩⟩, ?_, rfl, g3⟩
  · simp only
    rw [← g2]
    apply coreW_env
    intro s hs
    rw [look_putEnv, if_neg]
    intro e
    exact u.r2 s e hs
  · intro k
    simp only [look_putEnv]
    by_cases h1 : x.dst = some k
    · rw [if_pos h1, if_pos h1, if_neg (u.r1 k h1).2]
    · rw [if_neg h1, if_neg h1]

theorem stepW_eq {o : Oper} {st st' s1 : St} (h : EqSt st st') (hs : stepW call P nt (some (base, lt)) ops o st = some s1) : ∃ s1', stepW call P nt (some (base, lt)) ops o st' = some s1' ∧ EqSt s1 s1' := by
  obtain ⟨r, hc, hp⟩ := stepW_iff.1 hs
  obtain ⟨hn, rfl⟩ := put_iff.1 hp
  rw [coreW_env (env' := st'.env) fun s _ => h.env s, h.H] at hc
  obtain ⟨oo, g1, g2, _⟩ := coreW_frame (S := fun _ => False) (fun s hs => hs.elim) (own' := st'.own) (fun l _ => h.own l) hc
  refine ⟨_, stepW_iff.2 ⟨_, g1, put_iff.2 ⟨hn, rfl⟩⟩, ?_, rfl, ?_⟩
  · intro k; simp only [look_putEnv, h.env k]
  · intro l
    rw [mem_putOwn, mem_putOwn, g2 l fun s _ hs => hs.elim]
theorem runOps_eq : ∀ (l : List Oper) {st st' s1 : St}, EqSt st st' → runOps call P nt (some (base, lt)) ops l st = some s1 → ∃ s1', runOps call P nt (some (base, lt)) ops l st' = some s1' ∧ EqSt s1 s1'
  | [], _, _, _, h, hs => by simp only [runOps, Option.some.injEq] at hs ⊢; subst hs; exact ⟨_, rfl, h⟩
  | o :: l, st, st', s1, h, hs => by
    simp only [runOps] at hs ⊢
    split at hs
    · rename_i q hq
      obtain ⟨q', hq', he⟩ := stepW_eq h hq
      obtain ⟨s1', h1, h2⟩ := runOps_eq l he hs
      exact ⟨s1', by rw [hq']; exact h1, h2⟩
    · cases hs
theorem EqSt.trans {a b c : St} (h : EqSt a b) (k : EqSt b c) : EqSt a c := ⟨fun s => (h.env s).trans (k.env s), h.H.trans k.H, fun l => (h.own l).trans (k.own l)⟩
theorem EqSt.symm {a b : St} (h : EqSt a b) : EqSt b a := ⟨fun s => (h.env s).symm, h.H.symm, fun l => (h.own l).symm⟩

/-- An operation that has nothing to do with those ahead of it goes first. -/
theorem front {i : Oper} : ∀ (l : List Oper) {st stA stB : St}, runOps call P nt (some (base, lt)) ops l st = some stA → stepW call P nt (some (base, lt)) ops i stA = some stB → (∀ x ∈ l, Unord ops lt x i) →
    (∀ t a id off, i.op = .load t a → evalO st.env a = some (.ptr id off) → Live st.H id) →
    ∃ s1 s2, stepW call P nt (some (base, lt)) ops i st = some s1 ∧ runOps call P nt (some (base, lt)) ops l s1 = some s2 ∧ EqSt s2 stB
  | [], st, stA, stB, hr, hi, _, _ => by
    simp only [runOps, Option.some.injEq] at hr; subst hr
    exact ⟨stB, stB, hi, rfl, fun _ => rfl, rfl, fun _ => Iff.rfl⟩
  | x :: l, st, stA, stB, hr, hi, hu, hv => by
    simp only [runOps] at hr
    split at hr
    case h_2 => cases hr
    rename_i st1 hx
    have ux := hu x (by simp)
    obtain ⟨t1, t2, ht1, ht2, heq⟩ := front l hr hi (fun y hy => hu y (by simp [hy])) (by
      intro t a id off e1 e2
      obtain ⟨r, hcr, hpr⟩ := stepW_iff.1 hx
      obtain ⟨hn, rfl⟩ := put_iff.1 hpr
      simp only at e2 ⊢
      have : evalO st.env a = some (.ptr id off) := by
        rw [← e2]
        refine evalO_env fun s hs => ?_
        rw [look_putEnv, if_neg]
        intro e
        refine (ux.r1 s e).1 ?_
        unfold reads opSlots
        refine List.mem_append_right _ (List.mem_filterMap.2 ⟨a, by rw [e1]; simp [Op.operands], by rw [hs]⟩)
      have hl := hv t a id off e1 this
      cases hhx : heapOp x with
      | true =>
        rcases ux.h1 hhx with h | ⟨h1, h2, _⟩
        · exact absurd e1 ((memOp_parts h).2.2 t a)
        · exact (coreW_store h2 h1 hcr).2 id hl
      | false =>
        obtain ⟨b, hb⟩ := hl
        exact ⟨b, by rw [live_step hhx hcr ⟨b, hb⟩]; exact hb⟩)
    obtain ⟨s1, s2, h1, h2, he⟩ := swap hx ht1 ux hv
    obtain ⟨s3, h3, he3⟩ := runOps_eq l he.symm ht2
    exact ⟨s1, s3, h1, by simp only [runOps, h2]; exact h3, he3.symm.trans heq⟩

theorem runOps_append (l1 l2 : List Oper) (st : St) : runOps call P nt (some (base, lt)) ops (l1 ++ l2) st = (runOps call P nt (some (base, lt)) ops l1 st).bind (runOps call P nt (some (base, lt)) ops l2) := by
  induction l1 generalizing st with
  | nil => rfl
  | cons o l ih =>
    simp only [List.cons_append, runOps]
    split
    · rename_i q hq; exact ih q
    · rfl

end
end Go.Proofs.Ytnajopkaepjncaa.Am
