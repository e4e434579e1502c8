/- What a law's function answers, from what the abstract machine says of it. -/
import Derived.Test.YtnajopkaepjncaaAm32
import Derived.RowKit
namespace Go.Proofs.Ytnajopkaepjncaa.Am
set_option linter.unusedVariables false
set_option linter.unusedSimpArgs false

section
variable {P : Program} {K : Know} {W : World}

/-- The memory that comes in: nobody writes it. -/
def G0 (W : World) : Gh := ⟨fun b => match W.heap[b]? with
  | some (.cells c _ _) => c.size
  | _ => 0, fun _ => none, fun _ => 0, fun _ => none⟩
theorem G0_ok (W : World) : GOk (G0 W) W := by
  refine ⟨fun id b h => (by cases h), fun b hb => ⟨?_, rfl, rfl⟩⟩
  show (match W.heap[b]? with | some (.cells c _ _) => c.size | _ => 0) = 0
  rw [Array.getElem?_eq_none hb]
theorem G0_pm (W : World) : ∀ b o v, W.cell? ⟨b, o, none⟩ = some v → ((G0 W).mem W).pm b o = some v := by
  intro b o v h
  show pmOf W (G0 W) b o = some v
  unfold pmOf
  rw [if_pos ?_, h]
  show o < (match W.heap[b]? with | some (.cells c _ _) => c.size | _ => 0)
  unfold World.cell? at h
  split at h
  · rename_i c t fr hb
    rw [hb]
    simp only at h ⊢
    exact (Array.getElem?_eq_some_iff.1 h).1
  · cases h
theorem G0_heap (W : World) : HeapRel P (G0 W) [] W := ⟨fun id b h => (by cases h), fun id b k h => (by cases h), fun i j b k l h => (by cases h)⟩
theorem G0_foot (W : World) (b : Nat) : ¬ Foot (G0 W) b := by
  rintro (⟨id, h⟩ | h)
  · cases h
  · cases h

/-- A law's function: true, whatever memory it makes. -/
theorem law_calls (hP : POk P) (hS : ShortSound P K) {f : FuncId} {args : List AV} {vals : Array Value} {b : Bool} {H' : Hp} {cells' : Cl} (hc : CallsA P K f args [] [] (.bool b) H' cells') (har : ArgsRep P ((G0 W).mem W) args vals) :
    Calls P f vals W fun e W' => e = .returned (.bool b) ∧ Go.RowKit.Below W.heap.size W W' := by
  obtain ⟨own', _, N, hN⟩ := hc [] (fun l => (by constructor <;> intro h <;> cases h))
  have h1 := (machine_sound hP hS N).1 f args [] [] _ (hN N (Nat.le_refl _)) (G0 W) W vals (G0_ok W) (G0_heap W) ⟨fun id off b k cs h => (by cases h), fun id off h => (by cases h)⟩ har
  refine h1.mono ?_
  rintro e W' ⟨v, G', rfl, hd⟩
  have hr := hd.rep
  refine ⟨?_, hd.ext.below (Nat.le_refl _) fun b _ => G0_foot W b⟩
  cases hr
  rfl

theorem arg_one {T : Ty} {v : Value} {H : Type} {enc : TypeId × Value → H} {n : Nat} {t : TypeId} {d : DataW H} {ps : List MemPlace} (hT : tyOf P n t = some T) (hs : T.single = true) (h : DataW.Trod enc P W 0 (fun _ => true) true t v d ps) (hv : ∀ cs, v ≠ .agg cs) :
    ∃ x : T.den, Rep P ((G0 W).mem W) ((T.enc x).headD .undef) v := by
  obtain ⟨fuel, h⟩ := h
  obtain ⟨x, hx⟩ := trod_ty (G0_pm W) n t T fuel _ _ hT h
  obtain ⟨y, h1, h2⟩ := enc_one T x hs
  refine ⟨x, ?_⟩
  rw [h1] at hx ⊢
  have hc : v.cells.toList = [v] := by
    cases v <;> first | rfl | exact absurd rfl (hv _)
  rw [hc] at hx
  exact hx.rep 0 (by simp)
theorem args_nil {M : Mem} : ArgsRep P M [] #[] := ⟨rfl, fun i h => by simp at h⟩
theorem args_list {M : Mem} {xs : List AV} {vs : List Value} (hl : vs.length = xs.length) (h : ∀ i, i < xs.length → Rep P M (xs.getD i .undef) (vs.getD i undef)) : ArgsRep P M xs vs.toArray :=
  ⟨by simpa using hl, fun i hi => by have := h i hi; simpa [Array.getD_eq_getD_getElem?, List.getD_eq_getElem?_getD] using this⟩

end
end Go.Proofs.Ytnajopkaepjncaa.Am
