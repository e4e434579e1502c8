/- The abstract machine is right, thirteenth part: an operation puts its value; calls. -/
import Derived.Test.YtnajopkaepjncaaAmS
namespace Go.Proofs.Ytnajopkaepjncaa.Am
set_option linter.unusedVariables false
set_option linter.unusedSimpArgs false
open Go.RowKit

section
variable {P : Program} {w : World}

structure Rel (P : Program) (G : Gh) (nt : Nat) (st : St) (a : Act) (w : World) : Prop where
  ok : GOk G w
  heap : HeapRel P G st.H w
  own : Owns P G st.env st.H st.own (slotsOf a) w
  env : EnvRel P (G.mem w) st.env a
  size : a.tmps.size = nt
  defers : a.defers = []

theorem fresh_slot (l : List Loc) : ∃ d, Loc.slot d ∉ l := by
  have : ∀ l : List Loc, ∃ d, ∀ s, Loc.slot s ∈ l → s < d := by
    intro l
    induction l with
    | nil => exact ⟨0, fun s h => by cases h⟩
    | cons x r ih =>
      obtain ⟨d, hd⟩ := ih
      cases x with
      | slot s => exact ⟨max d (s + 1), fun q h => by
          rcases List.mem_cons.1 h with h | h
          · injection h with h; omega
          · have := hd q h; omega⟩
      | cell i o => exact ⟨d, fun q h => by
          rcases List.mem_cons.1 h with h | h
          · cases h
          · exact hd q h⟩
  obtain ⟨d, hd⟩ := this l
  exact ⟨d, fun h => by have := hd d h; omega⟩

theorem slots_put {a : Act} {d : Nat} {v : Value} (h : d < a.tmps.size) (s : Nat) : slotsOf (a.put (some d) v) s = if s = d then v else slotsOf a s := by
  unfold slotsOf Act.put
  simp only [Array.getD_eq_getD_getElem?]
  by_cases hs : s = d
  · subst hs; rw [if_pos rfl, Array.getElem?_setIfInBounds_self_of_lt h]; rfl
  · rw [if_neg hs, Array.getElem?_setIfInBounds_ne (fun e => hs e.symm)]
theorem look_cons (d : Nat) (x : AV) (env : List (Nat × AV)) (s : Nat) : look ((d, x) :: env) s = if s = d then x else look env s := by
  simp only [look]
  by_cases h : s = d
  · subst h; simp
  · rw [if_neg h]
    have : Nat.beq d s = false := by
      cases hb : Nat.beq d s with
      | false => rfl
      | true => exact absurd (Nat.eq_of_beq_eq_true hb).symm h
    rw [this]; rfl

theorem Done.owns {G G' : Gh} {w' : World} {env : List (Nat × AV)} {t : Nat → Value} {r : Res} {d : Nat} {v : Value} (h : Done P G w env t r d v w' G') (hd : Loc.slot d ∉ r.own) : Owns P G' env r.H r.own t w' :=
  ⟨fun s hs => h.slot s (by rintro rfl; exact hd hs) hs, h.cell, h.dom⟩

/-- The value is put; all stands as the machine has it. 'hd': what the operation has left is told for every slot that it may be put in. -/
theorem put_sound {nt : Nat} {st st' : St} {a : Act} {r : Res} {dst : Option Nat} {G G' : Gh} {w' : World} {v : Value} (hR : Rel P G nt st a w) (hp : r.put nt st.env dst = some st') (d : Nat) (hdst : ∀ q, dst = some q → q = d) (hnone : dst = none → Loc.slot d ∉ r.own)
    (h : Done P G w st.env (slotsOf a) r d v w' G') : Rel P G' nt st' (a.put dst v) w' ∧ Ext G w G' w' := by
  refine ⟨?_, h.ext⟩
  cases dst with
  | none =>
    simp only [Res.put, Option.some.injEq] at hp; subst hp
    exact ⟨h.ok, h.heap, h.owns (hnone rfl), fun s => h.ext.rep (hR.env s), hR.size, hR.defers⟩
  | some q =>
    obtain rfl := hdst q rfl
    simp only [Res.put] at hp
    split at hp
    · rename_i hlt
      injection hp with hp; subst hp
      have hsz : q < a.tmps.size := by rw [hR.size]; exact hlt
      refine ⟨h.ok, h.heap, ⟨?_, ?_, ?_⟩, ?_, by simp [Act.put, hR.size], hR.defers⟩
      · intro s hs
        rw [slots_put hsz, look_cons]
        by_cases hsq : s = q
        · subst hsq
          rw [if_pos rfl, if_pos rfl]
          cases hg : r.gives with
          | true => exact h.gives hg
          | false => simp only [hg, cond_false] at hs; exact absurd rfl (mem_drop.1 hs).2
        · rw [if_neg hsq, if_neg hsq]
          refine h.slot s hsq ?_
          cases hg : r.gives with
          | true =>
            simp only [hg, cond_true] at hs
            rcases mem_give.1 hs with e | ⟨e, _⟩
            · injection e with e; exact absurd e hsq
            · exact e
          | false => simp only [hg, cond_false] at hs; exact (mem_drop.1 hs).1
      · intro id off b k cs hm
        refine h.cell id off b k cs ?_
        cases hg : r.gives with
        | true =>
          simp only [hg, cond_true] at hm
          rcases mem_give.1 hm with e | ⟨e, _⟩
          · cases e
          · exact e
        | false => simp only [hg, cond_false] at hm; exact (mem_drop.1 hm).1
      · intro id off hm
        refine h.dom id off ?_
        cases hg : r.gives with
        | true =>
          simp only [hg, cond_true] at hm
          rcases mem_give.1 hm with e | ⟨e, _⟩
          · cases e
          · exact e
        | false => simp only [hg, cond_false] at hm; exact (mem_drop.1 hm).1
      · intro s
        have := slots_put (v := v) hsz s
        unfold slotsOf at this
        rw [this, look_cons]
        by_cases hsq : s = q
        · rw [if_pos hsq, if_pos hsq]; exact h.rep
        · rw [if_neg hsq, if_neg hsq]; exact h.ext.rep (hR.env s)
    · cases hp

/-! ### calls -/
def Gh.callee (G : Gh) : Gh := { G with owner := fun b => match G.owner b with | some (.cell i o) => some (.cell i o) | _ => none }
def Gh.back (G G' : Gh) : Gh := { G' with owner := fun b => match G.owner b with | some (.slot s) => some (.slot s) | _ => G'.owner b }

theorem callee_foot {G : Gh} {b : Nat} (h : Foot G.callee b) : Foot G b := by
  rcases h with h | h
  · exact .inl h
  · refine .inr ?_
    simp only [Gh.callee] at h
    split at h
    · rename_i e; rw [e]; rfl
    · cases h
theorem callee_gok {G : Gh} (g : GOk G w) : GOk G.callee w where
  fin := fun id b h => by
    obtain ⟨h1, h2, h3⟩ := g.fin id b h
    exact ⟨h1, h2, by simp only [Gh.callee, h3]⟩
  new := fun b hb => by
    obtain ⟨h1, h2, h3⟩ := g.new b hb
    exact ⟨h1, by simp only [Gh.callee, h2], h3⟩
theorem callee_own {G : Gh} {i o : Nat} {x : AV} {v : Value} (r : OwnAt P G w (.cell i o) x v) : OwnAt P G.callee w (.cell i o) x v := by
  intro e xs hx
  obtain ⟨sz, cells, h1, h2, h3, h4⟩ := r e xs hx
  exact ⟨sz, cells, h1, h2, h3, fun q hq => ⟨by simp only [Gh.callee, (h4 q hq).1], (h4 q hq).2⟩⟩

structure CellOwns (P : Program) (G : Gh) (H : List (Option Blk)) (own : List Loc) (w : World) : Prop where
  cell : ∀ id off b k cs, Loc.cell id off ∈ own → G.f id = some b → H[id]? = some (some k) → w.heap[b]? = some (.cells cs k.e (0, 0)) → OwnAt P G w (.cell id off) (k.cs.getD off .undef) (cs.getD off undef)
  dom : ∀ id off, Loc.cell id off ∈ own → Live H id

/-- What a call leaves. -/
structure CallDone (P : Program) (G : Gh) (w : World) (out : Out) (v : Value) (w' : World) (G' : Gh) : Prop where
  ext : Ext G w G' w'
  ok : GOk G' w'
  heap : HeapRel P G' out.2.1 w'
  rep : Rep P (G'.mem w') out.1 v
  own : CellOwns P G' out.2.1 out.2.2 w'

def ArgsRep (P : Program) (M : Mem) (args : List AV) (vals : Array Value) : Prop := vals.size = args.length ∧ ∀ i, i < args.length → Rep P M (args.getD i .undef) (vals.getD i undef)
def CallSound (P : Program) (call : CallA) : Prop := ∀ f args H own out, call f args H own = some out → ∀ (G : Gh) (w : World) (vals : Array Value), GOk G w → HeapRel P G H w → CellOwns P G H own w → ArgsRep P (G.mem w) args vals →
  Calls P f vals w fun e w' => ∃ v G', e = .returned v ∧ CallDone P G w out v w' G'

theorem back_done {G G' : Gh} {w' : World} {env : List (Nat × AV)} {H : List (Option Blk)} {own : List Loc} {t : Nat → Value} {out : Out} {v : Value} (g : GOk G w) (hH : HeapRel P G H w) (o : Owns P G env H own t w) (h : CallDone P G.callee w out v w' G') (d : Nat) :
    Done P G w env t ⟨out.1, out.2.1, own.filter (fun l => !l.isCell) ++ out.2.2.filter Loc.isCell, false⟩ d v w' (G.back G') := by
  have slotF : ∀ b s, G.owner b = some (.slot s) → b < w.heap.size ∧ ¬ Foot G.callee b := by
    intro b s hb
    have hlt : b < w.heap.size := by
      rcases Nat.lt_or_ge b w.heap.size with h | h
      · exact h
      · have := (g.new b h).2.1; rw [hb] at this; cases this
    refine ⟨hlt, ?_⟩
    rintro (⟨id, hid⟩ | hf)
    · have := (g.fin id b hid).2.2; rw [hb] at this; cases this
    · simp only [Gh.callee, hb] at hf; cases hf
  have hext : Ext G w (G.back G') w' := by
    refine ⟨h.ext.os, h.ext.tape, h.ext.output, h.ext.size, h.ext.prot, h.ext.f, h.ext.bs, ?_⟩
    intro b hb hf
    obtain ⟨h1, h2, h3⟩ := h.ext.foreign b hb (fun hf' => hf (callee_foot hf'))
    refine ⟨h1, h2, ?_⟩
    rintro (h4 | h4)
    · exact h3 (.inl h4)
    · simp only [Gh.back] at h4
      split at h4
      · rename_i e; exact hf (.inr (by rw [e]; rfl))
      · exact h3 (.inr h4)
  refine ⟨hext, ⟨?_, ?_⟩, ⟨h.heap.dom, h.heap.blk, h.heap.inj⟩, h.rep, ?_, ?_, fun h => (by cases h), ?_⟩
  · intro id b hid
    obtain ⟨h1, h2, h3⟩ := h.ok.fin id b hid
    refine ⟨h1, h2, ?_⟩
    simp only [Gh.back]
    split
    · rename_i s e
      obtain ⟨h4, h5⟩ := slotF b s e
      exact absurd (.inl ⟨id, hid⟩) (h.ext.foreign b h4 h5).2.2
    · exact h3
  · intro b hb
    obtain ⟨h1, h2, h3⟩ := h.ok.new b hb
    refine ⟨h1, ?_, h3⟩
    simp only [Gh.back]
    rw [(g.new b (Nat.le_trans h.ext.size hb)).2.1]
    exact h2
  · intro s _ hs
    rcases List.mem_append.1 hs with hs | hs
    · have hs := (List.mem_filter.1 hs).1
      intro e xs hx
      obtain ⟨sz, cells, h1, h2, h3, h4⟩ := o.slot s hs e xs hx
      refine ⟨sz, cells, h1, h2, ?_, ?_⟩
      · rcases h3.2 with hn | ⟨q, cap, cur, hv, hb0, hh, rest⟩
        · exact ⟨h3.1, .inl hn⟩
        · have hq := h4 q (by rw [hv]; rfl)
          obtain ⟨h5, h6⟩ := slotF q s hq.1
          exact ⟨h3.1, .inr ⟨q, cap, cur, hv, hb0, by rw [(h.ext.foreign q h5 h6).1]; exact hh, rest⟩⟩
      · intro q hq
        have hq := h4 q hq
        obtain ⟨h5, h6⟩ := slotF q s hq.1
        refine ⟨by simp only [Gh.back, hq.1], ?_⟩
        show G'.lim q = _
        rw [(h.ext.foreign q h5 h6).2.1]; exact hq.2
    · have := (List.mem_filter.1 hs).2; cases this
  · intro id off b k cs hm hf hk hb
    rcases List.mem_append.1 hm with hm | hm
    · have := (List.mem_filter.1 hm).2; simp [Loc.isCell] at this
    · have hm := (List.mem_filter.1 hm).1
      intro e xs hx
      obtain ⟨sz, cells, h1, h2, h3, h4⟩ := h.own.cell id off b k cs hm hf hk hb e xs hx
      refine ⟨sz, cells, h1, h2, h3, fun q hq => ⟨?_, (h4 q hq).2⟩⟩
      have hq' := (h4 q hq).1
      simp only [Gh.back]
      split
      · rename_i s e'
        obtain ⟨h5, h6⟩ := slotF q s e'
        exact absurd (.inr (by rw [hq']; rfl)) (h.ext.foreign q h5 h6).2.2
      · exact hq'
  · intro id off hm
    rcases List.mem_append.1 hm with hm | hm
    · have := (List.mem_filter.1 hm).2; simp [Loc.isCell] at this
    · exact h.own.dom id off (List.mem_filter.1 hm).1

end
end Go.Proofs.Ytnajopkaepjncaa.Am
