/- A call without arguments whose answer is a truth value, told once for all memories: it leaves what the machine holds as it was. -/
import Derived.Test.YtnajopkaepjncaaAm33
namespace Go.Proofs.Ytnajopkaepjncaa.Am
set_option linter.unusedVariables false
set_option linter.unusedSimpArgs false
open Go.RowKit

section
variable {P : Program} {K : Know}

def idle (f0 : FuncId) (b : Bool) : FuncId → Option (List AV → List (Option Blk) → List Loc → Option Out) := fun f => match Nat.beq f f0 with
  | true => some fun args H own => match args with
    | [] => some (.bool b, H, own)
    | _ => none
  | false => none

theorem idle_sound (hP : POk P) (hS : ShortSound P K) {f0 : FuncId} {b : Bool} {n : Nat} {H' : List (Option Blk)} {own' : List Loc} (h : callN P K n f0 [] [] [] = some (.bool b, H', own')) {K' : Know} (hK : K'.short = idle f0 b) : ShortSound P K' := by
  intro f g hg
  rw [hK] at hg
  unfold idle at hg
  cases hb : Nat.beq f f0 with
  | false => rw [hb] at hg; cases hg
  | true =>
    rw [hb] at hg
    injection hg with hg
    have hf : f = f0 := Nat.eq_of_beq_eq_true hb
    subst hf
    subst hg
    intro f1 args H own out hc G w vals g hH ho ha
    simp only at hc
    split at hc
    case isFalse => cases hc
    rename_i he
    subst he
    cases args with
    | cons x r => cases hc
    | nil =>
    injection hc with hc
    subst hc
    have hnf : ∀ q, ¬ Foot (Gh.mk G.lim (fun _ => none) (fun _ => 0) (fun _ => none)) q := by
      rintro q (⟨id, h⟩ | h)
      · cases h
      · cases h
    have g1 : GOk (Gh.mk G.lim (fun _ => none) (fun _ => 0) (fun _ => none)) w := ⟨fun id q h => (by cases h), fun q hq => ⟨(g.new q hq).1, rfl, rfl⟩⟩
    have h1 := (machine_sound hP hS n).1 f1 [] [] [] _ h (Gh.mk G.lim (fun _ => none) (fun _ => 0) (fun _ => none)) w vals g1 ⟨fun id q h => (by cases h), fun id q k h => (by cases h), fun i j q k l h => (by cases h)⟩ ⟨fun id off q k cs h => (by cases h), fun id off h => (by cases h)⟩ ⟨ha.1, fun i hi => by simp at hi⟩
    refine h1.mono ?_
    rintro e w' ⟨v, G', rfl, hd⟩
    have hr := hd.rep
    have hext : Ext G w (Gh.mk G'.lim G.f G.bs G.owner) w' := by
      refine ⟨hd.ext.os, hd.ext.tape, hd.ext.output, hd.ext.size, fun q o u hq => hd.ext.prot q o u hq, fun _ _ h => h, fun _ => Nat.le_refl _, fun q hq hn => ?_⟩
      obtain ⟨a1, a2, _⟩ := hd.ext.foreign q hq (hnf q)
      exact ⟨a1, a2, hn⟩
    have hkeep : ∀ l x u, OwnAt P G w l x u → OwnAt P (Gh.mk G'.lim G.f G.bs G.owner) w' l x u := by
      intro l x u r e xs hx
      obtain ⟨sz, cells, h1, h2, h3, h4⟩ := r e xs hx
      have hlt : ∀ q, u.ownBlock = some q → q < w.heap.size := by
        intro q hq
        rcases h3.2 with ⟨rfl, _⟩ | ⟨g', cap, cur, rfl, _, hh, _⟩
        · simp [Value.ownBlock] at hq
        · have : g' = q := by simpa [Value.ownBlock] using hq
          subst this
          exact (Array.getElem?_eq_some_iff.1 hh).1
      refine ⟨sz, cells, h1, h2, h3.kept ⟨hd.ext.os, hd.ext.tape, hd.ext.output, hd.ext.size, fun i hi _ => (hd.ext.foreign i hi (hnf i)).1⟩ (row := none) (by cases u.ownBlock <;> simp), fun q hq => ⟨(h4 q hq).1, ?_⟩⟩
      show G'.lim q = _
      rw [(hd.ext.foreign q (hlt q hq) (hnf q)).2.1]
      exact (h4 q hq).2
    cases hr
    refine ⟨.bool b, Gh.mk G'.lim G.f G.bs G.owner, rfl, hext, ⟨fun id q hq => ?_, fun q hq => ?_⟩, ⟨hH.dom, fun id q k hq hk => ?_, hH.inj⟩, .bool b, ⟨fun id off q k cs hm hf hk hb => ?_, ho.dom⟩⟩
    · obtain ⟨a1, a2, a3⟩ := g.fin id q hq
      refine ⟨Nat.lt_of_lt_of_le a1 hd.ext.size, ?_, a3⟩
      show G'.lim q = 0
      rw [(hd.ext.foreign q a1 (hnf q)).2.1]; exact a2
    · obtain ⟨a1, a2, a3⟩ := g.new q (Nat.le_trans hd.ext.size hq)
      exact ⟨(hd.ok.new q hq).1, a2, a3⟩
    · obtain ⟨ds, d1, d2, d3, d4, d5⟩ := hH.blk id q k hq hk
      exact ⟨ds, by rw [(hd.ext.foreign q (g.fin id q hq).1 (hnf q)).1]; exact d1, d2, d3, fun j hj => hext.rep (d4 j hj), d5⟩
    · rw [(hd.ext.foreign q (g.fin id q hf).1 (hnf q)).1] at hb
      exact hkeep _ _ _ (ho.cell id off q k cs hm hf hk hb)

theorem none_sound (hK : K.short = fun _ => none) : ShortSound P K := by
  intro f g h
  rw [hK] at h
  cases h

end
end Go.Proofs.Ytnajopkaepjncaa.Am
