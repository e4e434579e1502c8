/- The abstract machine is right: a loop's iterator is made, a map is written no more for a while, the iterator steps. -/
import Derived.Test.YtomheegfobcijaaGreatDoorM3
import Derived.Maps.RangeRun
import Derived.TacticsIn
import Derived.OrdersIn
import Derived.RangeFuncRecord
import Derived.RangeFuncOwn
import Derived.RecoverIn
/- The abstract machine is right: a loop's iterator is made, a map is written no more for a while, the iterator steps. -/
namespace Go.Proofs.YtomheegfobcijaaGreatDoor.Am
set_option linter.unusedVariables false
set_option linter.unusedSimpArgs false
open Go.RowKit

section
variable {P : Program} {B : Fr}

/-- Up to where a block that is no row of cells may be written. -/
def Gh.relim (G : Gh) (b n : Nat) : Gh := { G with lim := upd G.lim b n }
theorem relim {nt : Nat} {G : Gh} {w : World} {env : List (Nat × AV)} {H : List (Option Blk)} {own : List Loc} {a : Act} (hR : Rel P B G nt ⟨env, H, own⟩ a w) {id b n : Nat} {k k' : Blk} {o : Obj} (hf : G.f id = some b) (hk : H[id]? = some (some k)) (hke : Nat.beq k.e LOOP = true)
    (ho : w.heap[b]? = some o) (hno : ∀ cs t f, o ≠ .cells cs t f) (hla : LoopAt P (G.mem w) w b k') (hz : isFz k' = false → n = 0) (hgl : n = 0 → glN ≤ b) :
    Rel P B (G.relim b n) nt ⟨env, H.set id (some k'), own⟩ a w ∧ (G.mem w).le ((G.relim b n).mem w) ∧ (∀ G0 w0, Ext G0 w0 G w → (b < w0.heap.size → Foot G0 b) → Ext G0 w0 (G.relim b n) w) ∧ (∀ x, x ≠ b → ¬ Foot G x → ¬ Foot (G.relim b n) x) ∧ (n ≠ 0 → ¬ Foot (G.relim b n) b) := by
  have hblt := hR.ok.fin id b hf
  have hlim : ∀ x, x ≠ b → (G.relim b n).lim x = G.lim x := fun x hx => upd_ne _ _ hx
  have hlimb : (G.relim b n).lim b = n := upd_same _ _ _
  have hfoot : ∀ x, x ≠ b → ¬ Foot G x → ¬ Foot (G.relim b n) x := by
    rintro x hx hn (⟨hi, hl⟩ | ho)
    · exact hn (.inl ⟨hi, by rw [← hlim x hx]; exact hl⟩)
    · exact hn (.inr ho)
  have hfootb : n ≠ 0 → ¬ Foot (G.relim b n) b := by
    rintro hn (⟨_, hl⟩ | ho)
    · rw [hlimb] at hl; exact hn hl
    · have ho : (G.owner b).isSome = true := ho
      rw [hblt.2] at ho; cases ho
  have hpm : ∀ x q v, pmOf w G x q = some v → pmOf w (G.relim b n) x q = some v := by
    intro x q v hv
    have hx : x ≠ b := by
      rintro rfl
      unfold pmOf at hv
      split at hv
      · rw [cell_none ho hno] at hv; cases hv
      · cases hv
    unfold pmOf at hv ⊢
    rw [hlim x hx]; exact hv
  have hm : (G.mem w).le ((G.relim b n).mem w) := ⟨hpm, fun _ _ h => h, fun _ => Nat.le_refl _⟩
  have hkne := ((hR.heap.blk id b k hf hk).2 hke).kind.1
  have hidlt : id < H.length := (List.getElem?_eq_some_iff.1 hk).1
  have hset : ∀ j q, (H.set id (some k'))[j]? = some (some q) → (j = id ∧ q = k') ∨ (j ≠ id ∧ H[j]? = some (some q)) := by
    intro j q hj
    by_cases hji : j = id
    · subst hji
      rw [List.getElem?_set_self hidlt] at hj
      injection hj with hj
      injection hj with hj
      exact .inl ⟨rfl, hj.symm⟩
    · rw [List.getElem?_set_ne (fun e => hji e.symm)] at hj
      exact .inr ⟨hji, hj⟩
  have hone : ∀ j q, G.f j = some b → j ≠ id → H[j]? = some (some q) → False := by
    intro j q hj hne hq
    by_cases hqn : q.cs = []
    · obtain ⟨cs, hc, _⟩ := (hR.heap.blk j b q hj hq).1 ((hR.heap.blk j b q hj hq).cs_nil hqn)
      rw [ho] at hc
      injection hc with hc
      exact hno _ _ _ hc
    · exact hne (hR.heap.inj j id b q k hj hf hq hk hqn hkne)
  have hown : ∀ lc z u, OwnAt P G w lc z u → OwnAt P (G.relim b n) w lc z u := by
    intro lc z u ro e xs hx
    obtain ⟨sz, cells, a1, a2, a3, a4⟩ := ro e xs hx
    refine ⟨sz, cells, a1, a2, a3, fun g hg => ?_⟩
    obtain ⟨b1, b2⟩ := a4 g hg
    have hgb : g ≠ b := by rintro rfl; rw [hblt.2] at b1; cases b1
    exact ⟨b1, by rw [hlim g hgb]; exact b2⟩
  refine ⟨⟨⟨hR.ok.fin, fun x hx => ?_, fun x hx => ?_, hR.ok.held.is⟩, ⟨fun i x hi => (hR.heap.dom i x hi).set _ _, fun i x q hi hq => ?_, fun i j x q1 q2 hi hj hq1 hq2 n1 n2 => ?_, fun i x q hi hq hn hzq => ?_⟩,
    ⟨fun s hs => hown _ _ _ (hR.own.slot s hs), fun i off x q cs hm hi hq hb => ?_, fun i off hm => (hR.own.dom i off hm).set _ _⟩, fun s => (hR.env s).mono hm, hR.size, ?_⟩, hm, fun G0 w0 e h0 => ?_, hfoot, hfootb⟩
  · have hxb : x ≠ b := by rintro rfl; omega
    have := hR.ok.new x hx
    exact ⟨by rw [hlim x hxb]; exact this.1, this.2⟩
  · obtain ⟨h1, h2⟩ := hR.ok.held.lt x hx
    refine ⟨h1, ?_⟩
    by_cases hxb : x = b
    · subst hxb
      exact hfootb fun hn => by have := hgl hn; omega
    · exact hfoot x hxb h2
  · rcases hset i q hq with ⟨rfl, rfl⟩ | ⟨hne, hq⟩
    · have e : some x = some b := hi.symm.trans hf
      injection e with e; subst e
      exact BlkAt.to (M := G.mem w) ⟨fun e' => (by rw [hla.kind.2] at e'; cases e'), fun _ => hla⟩ rfl rfl hm
    · exact (hR.heap.blk i x q hi hq).to rfl rfl hm
  · rcases hset i q1 hq1 with ⟨b1, _⟩ | ⟨b1, hq1⟩ <;> rcases hset j q2 hq2 with ⟨b2, _⟩ | ⟨b2, hq2⟩
    · rw [b1, b2]
    · have e : some x = some b := by rw [b1] at hi; exact hi.symm.trans hf
      injection e with e; subst e
      exact (hone j q2 hj b2 hq2).elim
    · have e : some x = some b := by rw [b2] at hj; exact hj.symm.trans hf
      injection e with e; subst e
      exact (hone i q1 hi b1 hq1).elim
    · exact hR.heap.inj i j x q1 q2 hi hj hq1 hq2 n1 n2
  · rcases hset i q hq with ⟨rfl, rfl⟩ | ⟨hne, hq⟩
    · have e : some x = some b := hi.symm.trans hf
      injection e with e; subst e
      rw [hlimb]; exact hz hzq
    · have hxb : x ≠ b := by rintro rfl; exact hone i q hi hne hq
      rw [hlim x hxb]
      exact hR.heap.lim i x q hi hq hn hzq
  · rcases hset i q hq with ⟨rfl, rfl⟩ | ⟨hne, hq⟩
    · have e : some x = some b := hi.symm.trans hf
      injection e with e; subst e
      rw [ho] at hb
      injection hb with hb
      exact absurd hb (hno _ _ _)
    · exact hown _ _ _ (hR.own.cell i off x q cs hm hi hq hb)
  · have hd := hR.defers
    cases B with
    | round => trivial
    | bare => exact hd
    | frame B =>
      obtain ⟨hn, h0, rs, l, h1, h2, h4, h3⟩ := hd
      refine ⟨hn, h0, rs, l, h1, h2.mono hm, h4, fun r hr => ?_⟩
      obtain ⟨a1, a2, a3⟩ := h3 r hr
      have hrb : r ≠ b := by rintro rfl; exact a3.2 ⟨id, hf⟩
      exact ⟨a1, a2, hfoot r hrb a3.1, a3.2⟩
  · refine ⟨e.os, e.tape, e.output, e.size, fun x q v h => hpm _ _ _ (e.prot x q v h), e.f, e.bs, fun x hx hn => ?_, e.lo⟩
    obtain ⟨a1, a2, a3⟩ := e.foreign x hx hn
    have hxb : x ≠ b := by rintro rfl; exact hn (h0 hx)
    exact ⟨a1, (hlim x hxb).trans a2, hfoot x hxb a3.1, a3.2⟩

/-- A block of which nothing is known is written. -/
theorem any_rel {nt : Nat} {G : Gh} {w : World} {st : St} {a : Act} (hR : Rel P B G nt st a w) {id r : Nat} {o o' : Obj} {w1 : World} (hf : G.f id = some r) (hk : st.H[id]? = some (some anyBlk))
    (ho : w.heap[r]? = some o) (hno : ∀ cs t f, o ≠ .cells cs t f) (hnd : o ≠ .deferred (some [])) (hno' : ∀ cs t f, o' ≠ .cells cs t f) (hgl : glN ≤ r) (hw1 : w1 = w ∨ w1 = w.drew) :
    Rel P B G nt st a (w1.putObj r o') ∧ (G.mem w).le (G.mem (w1.putObj r o')) ∧ (w1.putObj r o').heap[r]? = some o' ∧ (∀ q, q ≠ r → (w1.putObj r o').heap[q]? = w.heap[q]?) ∧ (w1.putObj r o').heap.size = w.heap.size ∧
      ∀ G0 w0, Ext G0 w0 G w → w0.heap.size ≤ r → Ext G0 w0 G (w1.putObj r o') := by
  have hh : w1.heap = w.heap := by rcases hw1 with rfl | rfl <;> rfl
  have hlt : r < w.heap.size := (Array.getElem?_eq_some_iff.1 ho).1
  have hsz : (w1.putObj r o').heap.size = w.heap.size := by rw [World.putObj_size, hh]
  have hnew : (w1.putObj r o').heap[r]? = some o' := World.putObj_heap_same (by rw [hh]; exact hlt)
  have hoth : ∀ q, q ≠ r → (w1.putObj r o').heap[q]? = w.heap[q]? := fun q hq => by rw [World.putObj_heap_other hq, hh]
  have hgr : w.grownBy (w1.putObj r o') (some r) := ⟨by rcases hw1 with rfl | rfl <;> rfl, by rcases hw1 with rfl | rfl <;> rfl, by rcases hw1 with rfl | rfl <;> rfl, by rw [hsz]; exact Nat.le_refl _, fun q hq hne => hoth q (by intro e; exact hne (by rw [e]))⟩
  have hprot : ∀ b q v, pmOf w G b q = some v → pmOf (w1.putObj r o') G b q = some v := by
    intro b q v hv
    have hb : b ≠ r := by
      rintro rfl
      unfold pmOf at hv
      split at hv
      · rw [cell_none ho hno] at hv; cases hv
      · cases hv
    unfold pmOf at hv ⊢
    split at hv
    · rename_i hlt'; rw [if_pos hlt', World.cell?_of_block (hoth b hb)]; exact hv
    · cases hv
  have hm : (G.mem w).le (G.mem (w1.putObj r o')) := ⟨hprot, fun _ _ h => h, fun _ => Nat.le_refl _⟩
  have hone : ∀ j q, G.f j = some r → st.H[j]? = some (some q) → q = anyBlk := by
    intro j q hj hq
    by_cases hqn : q.cs = []
    · obtain ⟨cs, hc, _⟩ := (hR.heap.blk j r q hj hq).1 ((hR.heap.blk j r q hj hq).cs_nil hqn)
      rw [ho] at hc
      injection hc with hc
      exact absurd hc (hno _ _ _)
    · have := hR.heap.inj j id r q anyBlk hj hf hq hk hqn (by simp [anyBlk])
      subst this
      rw [hk] at hq
      injection hq with hq
      injection hq with hq
      exact hq.symm
  have hown : ∀ lc z u, OwnAt P G w lc z u → OwnAt P G (w1.putObj r o') lc z u := by
    intro lc z u ro e xs hx
    obtain ⟨sz, cells, a1, a2, a3, a4⟩ := ro e xs hx
    refine ⟨sz, cells, a1, a2, a3.kept hgr ?_, a4⟩
    cases hu : u.ownBlock with
    | none => exact .inl rfl
    | some q =>
      refine .inr ?_
      intro e
      injection e with e
      subst e
      have := (a4 q hu).1
      rw [(hR.ok.fin id q hf).2] at this
      cases this
  have hheld : Held G (w1.putObj r o') := by
    refine ⟨fun b hb => by obtain ⟨h1, h2⟩ := hR.ok.held.lt b hb; exact ⟨by rw [hsz]; exact h1, h2⟩, ?_⟩
    have e : (fun b => if b < glN then (w1.putObj r o').heap[b]? else none) = fun b => if b < glN then w.heap[b]? else none := by
      funext b
      by_cases hb : b < glN
      · rw [if_pos hb, if_pos hb]; exact hoth b (by omega)
      · rw [if_neg hb, if_neg hb]
    rw [e]; exact hR.ok.held.is
  refine ⟨⟨⟨fun i b h => by rw [hsz]; exact hR.ok.fin i b h, fun b hb => hR.ok.new b (by rw [hsz] at hb; exact hb), hheld⟩,
    ⟨hR.heap.dom, fun i b k h hk' => ?_, hR.heap.inj, hR.heap.lim⟩,
    ⟨fun s hs => hown _ _ _ (hR.own.slot s hs), fun i off b k cs hm' hi hk' hb => ?_, hR.own.dom⟩, fun s => (hR.env s).mono hm, hR.size, ?_⟩, hm, hnew, hoth, hsz, fun G0 w0 e h0 => ?_⟩
  · by_cases hb : b = r
    · subst hb
      rw [hone i k h hk']
      exact ⟨fun e => (by cases e), fun _ => .inr (.inr rfl)⟩
    · exact (hR.heap.blk i b k h hk').to (hoth b hb) rfl hm
  · have hbr : b ≠ r := by
      rintro rfl
      rw [hnew] at hb
      injection hb with hb
      exact hno' _ _ _ hb
    rw [hoth b hbr] at hb
    exact hown _ _ _ (hR.own.cell i off b k cs hm' hi hk' hb)
  · have hd := hR.defers
    cases B with
    | round => trivial
    | bare => exact hd
    | frame B =>
      obtain ⟨hn, h0, rs, l, h1, h2, h4, h3⟩ := hd
      refine ⟨hn, by rw [hsz]; exact h0, rs, l, h1, h2.mono hm, h4, fun q hq => ?_⟩
      obtain ⟨a1, a2, a3⟩ := h3 q hq
      have hqr : q ≠ r := by rintro rfl; exact a3.2 ⟨id, hf⟩
      exact ⟨a1, (hoth q hqr).trans a2, a3⟩
  · refine ⟨hgr.os.trans e.os, hgr.tape.trans e.tape, hgr.output.trans e.output, by rw [hsz]; exact e.size, fun b q v h => hprot b q v (e.prot b q v h), e.f, e.bs, fun b hb hn => ?_, e.lo⟩
    obtain ⟨a1, a2, a3⟩ := e.foreign b hb hn
    exact ⟨(hoth b (by omega)).trans a1, a2, a3⟩

/-- Such a block is made. -/
theorem rel_any {nt : Nat} {G : Gh} {w : World} {st : St} {a : Act} (hR : Rel P B G nt st a w) (o : Obj) :
    (G.map st.H.length w.heap.size 0).f st.H.length = some w.heap.size ∧ Rel P B (G.map st.H.length w.heap.size 0) nt ⟨st.env, st.H ++ [some anyBlk], st.own⟩ a (w.alloc o) ∧ Ext G w (G.map st.H.length w.heap.size 0) (w.alloc o) := by
  have g := hR.ok
  have hid : G.f st.H.length = none := by
    cases hf : G.f st.H.length with
    | none => rfl
    | some b => have := (hR.heap.dom _ _ hf).lt; omega
  have hbel : Below w.heap.size w (w.alloc o) := (Below.refl _ _).alloc (Nat.le_refl _) _
  have hs2 : (w.alloc o).heap.size = w.heap.size + 1 := World.size_alloc _ _
  have hgf : ∀ i b, (G.map st.H.length w.heap.size 0).f i = some b → (i = st.H.length ∧ b = w.heap.size) ∨ (i ≠ st.H.length ∧ G.f i = some b) := by
    intro i b h
    change upd G.f st.H.length (some w.heap.size) i = some b at h
    by_cases hi : i = st.H.length
    · subst hi; rw [upd_same] at h; injection h with h; exact .inl ⟨rfl, h.symm⟩
    · rw [upd_ne _ _ hi] at h; exact .inr ⟨hi, h⟩
  have gr : Grow G w (G.map st.H.length w.heap.size 0) (w.alloc o) := by
    refine ⟨hbel, fun _ _ => rfl, fun _ _ => rfl, fun b hb => upd_ne _ _ (by omega), fun i b h => ?_, fun i b h => ?_, rfl⟩
    · show upd G.f st.H.length _ i = _
      rw [upd_ne _ _ (by rintro rfl; rw [hid] at h; cases h)]; exact h
    · rcases hgf i b h with ⟨rfl, rfl⟩ | ⟨_, h⟩
      · exact .inr ⟨hid, Nat.le_refl _⟩
      · exact .inl h
  have hext := gr.ext g
  have hgok : GOk (G.map st.H.length w.heap.size 0) (w.alloc o) := by
    refine ⟨fun i b h => ?_, fun b hb => ?_, hext.held g.held⟩
    · rcases hgf i b h with ⟨rfl, rfl⟩ | ⟨_, h⟩
      · exact ⟨by rw [hs2]; omega, (g.new _ (Nat.le_refl _)).2.1⟩
      · obtain ⟨h1, h2⟩ := g.fin i b h
        exact ⟨by rw [hs2]; omega, h2⟩
    · rw [hs2] at hb
      obtain ⟨h1, h2, h3⟩ := g.new b (by omega)
      exact ⟨h1, h2, by show upd _ _ _ b = 0; rw [upd_ne _ _ (by omega)]; exact h3⟩
  have hH : ∀ i q, (st.H ++ [some anyBlk])[i]? = some (some q) → (i = st.H.length ∧ q = anyBlk) ∨ (i < st.H.length ∧ st.H[i]? = some (some q)) := by
    intro i q hi
    by_cases h1 : i < st.H.length
    · rw [List.getElem?_append_left h1] at hi; exact .inr ⟨h1, hi⟩
    · have h3 : i = st.H.length := by
        have := (List.getElem?_eq_some_iff.1 hi).1
        rw [List.length_append] at this
        simp only [List.length_cons, List.length_nil] at this
        omega
      subst h3
      rw [List.getElem?_append_right (Nat.le_refl _), Nat.sub_self] at hi
      injection hi with hi
      injection hi with hi
      exact .inl ⟨rfl, hi.symm⟩
  refine ⟨upd_same _ _ _, ⟨hgok, ⟨fun i b h => ?_, fun i b q h hq => ?_, fun i j b q1 q2 h1 h2 hq1 hq2 n1 n2 => ?_, fun i b q h hq hn hz => ?_⟩, ⟨fun s hs => (hR.own.slot s hs).grow gr, fun i off b q cs hm h hq hb => ?_, fun i off hm => ((hR.own.dom i off hm).append _).mono hext.f⟩, fun s => hext.rep (hR.env s), hR.size, hR.defers.ext hext⟩, hext⟩
  · rcases hgf i b h with ⟨rfl, rfl⟩ | ⟨_, h⟩
    · exact ⟨anyBlk, by rw [List.getElem?_append_right (Nat.le_refl _), Nat.sub_self]; rfl⟩
    · exact (hR.heap.dom i b h).append _
  · rcases hgf i b h with ⟨rfl, rfl⟩ | ⟨hne, h⟩
    · rcases hH _ q hq with ⟨_, rfl⟩ | ⟨hlt, _⟩
      · exact ⟨fun e' => (by cases e'), fun _ => .inr (.inr rfl)⟩
      · exact absurd hlt (Nat.lt_irrefl _)
    · rcases hH i q hq with ⟨e, _⟩ | ⟨_, hq⟩
      · exact absurd e hne
      · exact (hR.heap.blk i b q h hq).grow gr g (g.fin i b h).1
  · rcases hgf i b h1 with ⟨a1, a2⟩ | ⟨a1, h1⟩ <;> rcases hgf j b h2 with ⟨b1, b2⟩ | ⟨b1, h2⟩
    · rw [a1, b1]
    · have := (g.fin j b h2).1; omega
    · have := (g.fin i b h1).1; omega
    · rcases hH i q1 hq1 with ⟨e, _⟩ | ⟨_, hq1⟩
      · exact absurd e a1
      · rcases hH j q2 hq2 with ⟨e, _⟩ | ⟨_, hq2⟩
        · exact absurd e b1
        · exact hR.heap.inj i j b q1 q2 h1 h2 hq1 hq2 n1 n2
  · rcases hgf i b h with ⟨_, rfl⟩ | ⟨hne, h⟩
    · exact (g.new _ (Nat.le_refl _)).1
    · rcases hH i q hq with ⟨e, _⟩ | ⟨_, hq⟩
      · exact absurd e hne
      · exact hR.heap.lim i b q h hq hn hz
  · rcases hgf i b h with ⟨rfl, rfl⟩ | ⟨hne, h⟩
    · have := (hR.own.dom _ off hm).lt; omega
    · rcases hH i q hq with ⟨e, _⟩ | ⟨_, hq⟩
      · exact absurd e hne
      · rw [hbel.block b (g.fin i b h).1] at hb
        exact (hR.own.cell i off b q cs hm h hq hb).grow gr

/-- What is left of a map, entry by entry. -/
def LeftAt (P : Program) (M : Mem) (es : Array MapEntry) (seen : Array Nat) (l : List (AV × AV)) : Prop :=
  (leftOf es seen).toList.length = l.length ∧ ∀ (j : Nat) (p : AV × AV) (e : MapEntry), l[j]? = some p → (leftOf es seen).toList[j]? = some e → Rep P M p.1 e.key ∧ Rep P M p.2 e.val
/-- How an iterator stands: over which map, what is left, at which entry. -/
def ItAt (P : Program) (G : Gh) (w : World) (id r : Nat) (mo : Option (Nat × List (AV × AV))) (l : List (AV × AV)) (on : Option (AV × AV)) : Prop :=
  G.f id = some r ∧ ¬ Foot G r ∧ match mo with
  | none => l = [] ∧ on = none ∧ ∃ a s c, w.heap[r]? = some (.mapIter none a s c)
  | some (m, l0) => ∃ (rm : Nat) (es : Array MapEntry) (clock : Nat) (seen : Array Nat) (c0 : Nat), G.f m = some rm ∧ ¬ Foot G rm ∧ w.heap[rm]? = some (.map es clock) ∧ w.heap[r]? = some (.mapIter (some rm) clock seen c0) ∧ clock ≤ c0 ∧
      es.toList.length = l0.length ∧ (∀ j, j < l0.length → ∀ p e, l0[j]? = some p → es.toList[j]? = some e → Rep P (G.mem w) p.1 e.key ∧ Rep P (G.mem w) p.2 e.val) ∧ MapKept.Stamped es clock ∧
      LeftAt P (G.mem w) es seen l ∧ ∀ p, on = some p → ∃ (seen' : Array Nat) (e : MapEntry), seen = seen'.push e.born ∧ c0 = clock ∧ e ∈ es.toList ∧ Rep P (G.mem w) p.1 e.key ∧ Rep P (G.mem w) p.2 e.val
theorem LeftAt.mono {M M' : Mem} (hm : M.le M') {es : Array MapEntry} {seen : Array Nat} {l : List (AV × AV)} (h : LeftAt P M es seen l) : LeftAt P M' es seen l :=
  ⟨h.1, fun j p e h1 h2 => ⟨(h.2 j p e h1 h2).1.mono hm, (h.2 j p e h1 h2).2.mono hm⟩⟩
theorem ItAt.obj {G : Gh} {w : World} {id r : Nat} {mo : Option (Nat × List (AV × AV))} {l : List (AV × AV)} {on : Option (AV × AV)} (h : ItAt P G w id r mo l on) : ∃ a b c d, w.heap[r]? = some (.mapIter a b c d) := by
  obtain ⟨_, _, h⟩ := h
  cases mo with
  | none => obtain ⟨_, _, a, b, c, h⟩ := h; exact ⟨_, _, _, _, h⟩
  | some q => obtain ⟨m, l0⟩ := q; obtain ⟨rm, es, cl, seen, c0, _, _, _, h, _⟩ := h; exact ⟨_, _, _, _, h⟩
theorem ItAt.ext {G G' : Gh} {w w' : World} {id r : Nat} {mo : Option (Nat × List (AV × AV))} {l : List (AV × AV)} {on : Option (AV × AV)} (h : ItAt P G w id r mo l on) (e : Ext G w G' w') : ItAt P G' w' id r mo l on := by
  obtain ⟨h1, h2, h3⟩ := h
  have hk : ∀ q o, w.heap[q]? = some o → ¬ Foot G q → w'.heap[q]? = some o ∧ ¬ Foot G' q := fun q o ho hn => by
    obtain ⟨a1, _, a3⟩ := e.foreign q (Array.getElem?_eq_some_iff.1 ho).1 hn
    exact ⟨a1.trans ho, a3.1⟩
  cases mo with
  | none =>
    obtain ⟨b1, b2, a, b, c, b3⟩ := h3
    obtain ⟨c1, c2⟩ := hk r _ b3 h2
    exact ⟨e.f _ _ h1, c2, b1, b2, a, b, c, c1⟩
  | some q =>
    obtain ⟨m, l0⟩ := q
    obtain ⟨rm, es, cl, seen, c0, b1, b2, b3, b4, b5, b6, b7, b8, b9, b10⟩ := h3
    obtain ⟨c1, c2⟩ := hk r _ b4 h2
    obtain ⟨d1, d2⟩ := hk rm _ b3 b2
    refine ⟨e.f _ _ h1, c2, rm, es, cl, seen, c0, e.f _ _ b1, d2, d1, c1, b5, b6, fun j hj p x hp hx => ⟨e.rep (b7 j hj p x hp hx).1, e.rep (b7 j hj p x hp hx).2⟩, b8, b9.mono e.mem, fun p hp => ?_⟩
    obtain ⟨s', x, f1, f2, f3, f4, f5⟩ := b10 p hp
    exact ⟨s', x, f1, f2, f3, e.rep f4, e.rep f5⟩
theorem it_any {nt : Nat} {G : Gh} {w : World} {st : St} {a : Act} (hR : Rel P B G nt st a w) {id r : Nat} {mo : Option (Nat × List (AV × AV))} {l : List (AV × AV)} {on : Option (AV × AV)} (h : ItAt P G w id r mo l on) : st.H[id]? = some (some anyBlk) := by
  obtain ⟨p, q, s, t, ho⟩ := h.obj
  obtain ⟨k, hk⟩ := hR.heap.dom id r h.1
  have hb := hR.heap.blk id r k h.1 hk
  cases hke : Nat.beq k.e LOOP with
  | false =>
    obtain ⟨cs, hc, _⟩ := hb.1 hke
    rw [ho] at hc; cases hc
  | true =>
    rcases hb.2 hke with ⟨L, st, kind, x, vars, env, h1, _⟩ | ⟨m, es, cl, h1, _⟩ | e
    · rw [ho] at h1; cases h1
    · rw [ho] at h1; cases h1
    · rw [hk, e]
theorem it_next_none {G : Gh} {w : World} {id r : Nat} {mo : Option (Nat × List (AV × AV))} {on : Option (AV × AV)} (h : ItAt P G w id r mo [] on) (ty : TypeId) : (Instr.next (.pointer (some ⟨r, 0, none⟩)) false ty).run P w = .ok (.tuple #[.bool false]) w := by
  obtain ⟨h1, h2, h3⟩ := h
  cases mo with
  | none =>
    obtain ⟨_, _, a, b, c, hr⟩ := h3
    simp only [Instr.next, getObj, Sem.run_bind, Sem.run, hr, Result.andThen]
    rfl
  | some q =>
    obtain ⟨m, l0⟩ := q
    obtain ⟨rm, es, cl, seen, c0, b1, b2, b3, b4, b5, b6, b7, b8, b9, b10⟩ := h3
    have hs := (MapKept.stamped_iff es cl).1 b8
    rcases run_next_at (P := P) w ty r rm cl c0 seen es cl b4 b3 hs.1 b5 with ⟨_, hrun⟩ | ⟨e, he, _⟩
    · exact hrun
    · have hl : (leftOf es seen).toList.length = 0 := b9.1
      rw [List.eq_nil_of_length_eq_zero hl] at he
      cases he
theorem it_next_one {nt : Nat} {G : Gh} {w : World} {st : St} {a : Act} (hR : Rel P B G nt st a w) {id r : Nat} {mo : Option (Nat × List (AV × AV))} {p : AV × AV} {on : Option (AV × AV)} (h : ItAt P G w id r mo [p] on) (hgl : glN ≤ r) :
    ∃ v w2, (∀ ty, (Instr.next (.pointer (some ⟨r, 0, none⟩)) false ty).run P w = .ok v w2) ∧ Rep P (G.mem w2) (.tup [.bool true, p.1, p.2]) v ∧ Rel P B G nt st a w2 ∧ ItAt P G w2 id r mo [] (some p) ∧ ∀ G0 w0, Ext G0 w0 G w → w0.heap.size ≤ r → Ext G0 w0 G w2 := by
  have hany := it_any hR h
  obtain ⟨h1, h2, h3⟩ := h
  cases mo with
  | none => obtain ⟨e, _⟩ := h3; cases e
  | some q =>
    obtain ⟨m, l0⟩ := q
    obtain ⟨rm, es, cl, seen, c0, b1, b2, b3, b4, b5, b6, b7, b8, b9, b10⟩ := h3
    have hs := (MapKept.stamped_iff es cl).1 b8
    have hrr : rm ≠ r := by rintro rfl; rw [b3] at b4; cases b4
    rcases run_next_at (P := P) w 0 r rm cl c0 seen es cl b4 b3 hs.1 b5 with ⟨h0, _⟩ | ⟨e, he, w1, hw1, hrun⟩
    · have hl : (leftOf es seen).toList.length = 1 := b9.1
      rw [Array.length_toList] at hl
      omega
    · obtain ⟨hem, _⟩ := mem_left he
      have hl : (leftOf es seen).toList.length = 1 := b9.1
      obtain ⟨q, hq⟩ := List.length_eq_one_iff.1 hl
      rw [hq, List.mem_singleton] at he
      subst he
      have hp := b9.2 0 p e rfl (by rw [hq]; rfl)
      obtain ⟨hR2, hm, hnew, hoth, hsz, hE⟩ := any_rel (o' := .mapIter (some rm) cl (seen.push e.born) cl) hR h1 hany b4 (fun _ _ _ e => by cases e) (fun e => by cases e) (fun _ _ _ e => by cases e) hgl hw1
      have hleft : (leftOf es (seen.push e.born)).toList.length = 0 := by
        have := left_shrinks es seen e (by rw [hq]; simp)
        rw [Array.length_toList] at hl ⊢
        omega
      refine ⟨.tuple #[.bool true, e.key, e.val], w1.putObj r (.mapIter (some rm) cl (seen.push e.born) cl), fun ty => hrun, ?_, hR2, ?_, hE⟩
      · refine .tup _ _ rfl fun i hi => ?_
        match i, hi with
        | 0, _ => exact .bool true
        | 1, _ => exact hp.1.mono hm
        | 2, _ => exact hp.2.mono hm
      · refine ⟨h1, h2, rm, es, cl, seen.push e.born, cl, b1, b2, (hoth rm hrr).trans b3, hnew, Nat.le_refl _, b6, fun j hj q x hq hx => ⟨(b7 j hj q x hq hx).1.mono hm, (b7 j hj q x hq hx).2.mono hm⟩, b8, ⟨hleft, fun j q x hj => by simp at hj⟩, fun q hq => ?_⟩
        injection hq with hq
        subst hq
        exact ⟨seen, e, rfl, rfl, hem, hp.1.mono hm, hp.2.mono hm⟩
theorem it_entry {G : Gh} {w : World} {id r : Nat} {mo : Option (Nat × List (AV × AV))} {l : List (AV × AV)} {p : AV × AV} (h : ItAt P G w id r mo l (some p)) : ∃ v, (Instr.entry (.pointer (some ⟨r, 0, none⟩))).run P w = .ok v w ∧ Rep P (G.mem w) (.tup [p.1, p.2]) v := by
  obtain ⟨h1, h2, h3⟩ := h
  cases mo with
  | none => obtain ⟨_, e, _⟩ := h3; cases e
  | some q =>
    obtain ⟨m, l0⟩ := q
    obtain ⟨rm, es, cl, seen, c0, b1, b2, b3, b4, b5, b6, b7, b8, b9, b10⟩ := h3
    have hs := (MapKept.stamped_iff es cl).1 b8
    obtain ⟨s', e, f1, f2, f3, f4, f5⟩ := b10 p rfl
    subst f1 f2
    have hent : (Instr.entry (.pointer (some ⟨r, 0, none⟩))).run P w = .ok (.tuple #[e.key, e.val]) w := by
      have hf : es.find? (·.born == e.born) = some e := by rw [← Array.find?_toList]; exact find_born e es.toList hs.2.1 f3
      simp only [Instr.entry, getObj, Sem.run_bind, Sem.run, b4, b3, Result.andThen, Array.back?_push, bne_self_eq_false, Bool.false_eq_true, if_false, hf]
      rfl
    refine ⟨_, hent, .tup _ _ rfl fun i hi => ?_⟩
    match i, hi with
    | 0, _ => exact f4
    | 1, _ => exact f5
theorem held_le {G : Gh} {w : World} (h : Held G w) : glN ≤ w.heap.size := by
  rcases Nat.eq_zero_or_pos glN with h0 | h0
  · omega
  · have := (h.lt (glN - 1) (by omega)).1; omega

theorem any_fz : isFz anyBlk = true := by
  show Nat.beq LOOP LOOP = true
  exact Nat.beq_refl _
theorem map_fz (l : List (AV × AV)) : isFz (mapFz l) = true := by
  show Nat.beq LOOP LOOP = true
  exact Nat.beq_refl _
theorem no_fz {k : Blk} (h : isFz k = true) {p : Prop} (h' : isFz k = false) : p := by rw [h] at h'; cases h'
theorem left_all (es : Array MapEntry) : leftOf es #[] = es := by
  unfold leftOf
  exact Array.filter_eq_self.2 fun x hx => by simp
theorem set_same {α : Type} (l : List α) (x : α) : (l ++ [x]).set l.length x = l ++ [x] := by
  rw [List.set_append_right _ _ (Nat.le_refl _), Nat.sub_self]; rfl
theorem it_enter {nt : Nat} {G : Gh} {w : World} {st : St} {a : Act} (hR : Rel P B G nt st a w) {x : AV} {v : Value} {t : TypeId} {mo : Option (Nat × List (AV × AV))} {l : List (AV × AV)} {lo : Nat} (hx : entriesM lo st.H x = some (mo, l)) (hgl : G.lo ≤ lo) (ht : isMapT P t = true) (rx : Rep P (G.mem w) x v) :
    ∃ G1 w1, (Instr.range t v).run P w = .ok (.pointer (some ⟨w.heap.size, 0, none⟩)) w1 ∧ Rel P B G1 nt ⟨st.env, fzM mo st.H ++ [some anyBlk], st.own⟩ a w1 ∧ Ext G w G1 w1 ∧ ItAt P G1 w1 st.H.length w.heap.size mo l none ∧ ∀ m l0, mo = some (m, l0) → ∃ rm, G.f m = some rm ∧ Foot G rm := by
  obtain ⟨kt, et, hu⟩ : ∃ kt et, P.underlying t = some (.map kt et) := by
    unfold isMapT at ht
    split at ht
    · rename_i kt et hu; exact ⟨kt, et, hu⟩
    · cases ht
  rcases entriesM_some hx with ⟨rfl, rfl, rfl⟩ | ⟨m, rfl, rfl, hg, hmlo⟩
  · cases rx
    obtain ⟨hf1, hR1, hE1⟩ := rel_any hR (.mapIter none 0 #[] 0)
    have hnew : (w.alloc (.mapIter none 0 #[] 0)).heap[w.heap.size]? = some (.mapIter none 0 #[] 0) := heap_alloc_new w _
    obtain ⟨hR2, hm2, hE2, _, hn2⟩ := relim (n := 1) (k := anyBlk) (k' := anyBlk) hR1 hf1 (by rw [List.getElem?_append_right (Nat.le_refl _), Nat.sub_self]; rfl) (Nat.beq_refl _) hnew (fun _ _ _ e => by cases e) (.inr (.inr rfl)) (no_fz any_fz) (fun h => by cases h)
    rw [set_same] at hR2
    exact ⟨_, _, run_range_nilMap w t kt et hu, hR2, hE2 G w hE1 (fun h => absurd h (Nat.lt_irrefl _)), ⟨hf1, hn2 (by omega), rfl, rfl, _, _, _, hnew⟩, fun m l0 e => by cases e⟩
  · cases rx with
    | map _ rm hf =>
    obtain ⟨es, cl, hh, e1, e2, hst⟩ := map_at hR.heap (getMap_R hg) hf
    have hfoot : Foot G rm := .inl ⟨⟨m, Nat.le_trans hgl (Nat.ble_eq.mp hmlo), hf⟩, hR.heap.lim m rm _ hf (getMap_some hg) (by simp [mapBlk]) rfl⟩
    obtain ⟨hf1, hR1, hE1⟩ := rel_any hR (.mapIter (some rm) cl #[] cl)
    have hrlt : rm < w.heap.size := (Array.getElem?_eq_some_iff.1 hh).1
    have hmlt : m < st.H.length := (List.getElem?_eq_some_iff.1 (getMap_some hg)).1
    have hnew : (w.alloc (.mapIter (some rm) cl #[] cl)).heap[w.heap.size]? = some (.mapIter (some rm) cl #[] cl) := heap_alloc_new w _
    have hold : (w.alloc (.mapIter (some rm) cl #[] cl)).heap[rm]? = some (.map es cl) := (heap_alloc_old w _ hrlt).trans hh
    obtain ⟨hR2, hm2, hE2, _, hn2⟩ := relim (n := 1) (k := anyBlk) (k' := anyBlk) hR1 hf1 (by rw [List.getElem?_append_right (Nat.le_refl _), Nat.sub_self]; rfl) (Nat.beq_refl _) hnew (fun _ _ _ e => by cases e) (.inr (.inr rfl)) (no_fz any_fz) (fun h => by cases h)
    rw [set_same] at hR2
    have hE2 := hE2 G w hE1 (fun h => absurd h (Nat.lt_irrefl _))
    have e2' : ∀ j, j < l.length → ∀ p e, l[j]? = some p → es.toList[j]? = some e → Rep P (((G.map st.H.length w.heap.size 0).relim w.heap.size 1).mem (w.alloc (.mapIter (some rm) cl #[] cl))) p.1 e.key ∧ Rep P (((G.map st.H.length w.heap.size 0).relim w.heap.size 1).mem (w.alloc (.mapIter (some rm) cl #[] cl))) p.2 e.val :=
      fun j hj p e hp he => ⟨hE2.rep (e2 j hj p e hp he).1, hE2.rep (e2 j hj p e hp he).2⟩
    obtain ⟨hR3, hm3, hE3, hk3, hn3⟩ := relim (n := 1) (k := mapBlk l) (k' := mapFz l) hR2 (hE2.f _ _ hf) (by rw [List.getElem?_append_left hmlt]; exact getMap_some hg) (Nat.beq_refl _) hold (fun _ _ _ e => by cases e) (.inr (.inl ⟨l, es, cl, hold, .inr rfl, e1, e2', hst⟩)) (no_fz (map_fz l)) (fun h => by cases h)
    rw [List.set_append_left _ _ hmlt] at hR3
    refine ⟨_, _, run_range_map w t kt et rm es cl hu hh, hR3, hE3 G w hE2 (fun _ => hfoot), ⟨hE2.f _ _ hf |> fun _ => hf1, hk3 _ (by omega) (hn2 (by omega)), rm, es, cl, #[], cl, hE2.f _ _ hf, hn3 (by omega), hold, hnew, Nat.le_refl _, e1, fun j hj p e hp he => ⟨(e2' j hj p e hp he).1.mono hm3, (e2' j hj p e hp he).2.mono hm3⟩, hst, ⟨by rw [left_all]; exact e1, fun j p e hp he => ?_⟩, fun p e => by cases e⟩, fun m' l' e => ?_⟩
    · rw [left_all] at he
      have hj := (List.getElem?_eq_some_iff.1 hp).1
      exact ⟨(e2' j hj p e hp he).1.mono hm3, (e2' j hj p e hp he).2.mono hm3⟩
    · injection e with e; injection e with e _
      subst e
      exact ⟨rm, hf, hfoot⟩
/-- The loop is over: the map may be written again. -/
theorem it_leave {nt : Nat} {G G0 : Gh} {w w0 : World} {st : St} {a : Act} (hR : Rel P B G nt st a w) {id r : Nat} {mo : Option (Nat × List (AV × AV))} {l : List (AV × AV)} {on : Option (AV × AV)} (h : ItAt P G w id r mo l on) (hE : Ext G0 w0 G w) (hh : Held G0 w0) (h0 : ∀ m l0, mo = some (m, l0) → ∃ rm, G0.f m = some rm ∧ Foot G0 rm) :
    ∃ G', Rel P B G' nt (leaveM mo st) a w ∧ Ext G0 w0 G' w := by
  cases mo with
  | none => exact ⟨G, hR, hE⟩
  | some q =>
    obtain ⟨m, l0⟩ := q
    obtain ⟨h1, h2, h3⟩ := h
    obtain ⟨rm, es, cl, seen, c0, b1, b2, b3, b4, b5, b6, b7, b8, b9, b10⟩ := h3
    obtain ⟨rm', f1, f2⟩ := h0 m l0 rfl
    have e : some rm = some rm' := b1.symm.trans (hE.f _ _ f1)
    injection e with e
    subst e
    obtain ⟨k, hk⟩ := hR.heap.dom m rm b1
    have hke : Nat.beq k.e LOOP = true := by
      cases hke : Nat.beq k.e LOOP with
      | true => rfl
      | false =>
        obtain ⟨cs, hc, _⟩ := (hR.heap.blk m rm k b1 hk).1 hke
        rw [b3] at hc; cases hc
    have hglr : glN ≤ rm := by
      rcases Nat.lt_or_ge rm glN with hl | hl
      · exact absurd f2 (hh.lt rm hl).2
      · exact hl
    obtain ⟨hR2, _, hE2, _, _⟩ := relim (n := 0) (k := k) (k' := mapBlk l0) (env := st.env) (own := st.own) hR b1 hk hke b3 (fun _ _ _ e => by cases e) (.inr (.inl ⟨l0, es, cl, b3, .inl rfl, b6, b7, b8⟩)) (fun _ => rfl) (fun _ => hglr)
    exact ⟨_, hR2, hE2 G0 w0 hE (fun _ => f2)⟩

end
end Go.Proofs.YtomheegfobcijaaGreatDoor.Am

/- The abstract machine is right, fifteenth part: statements, functions, and all of it. -/
namespace Go.Proofs.YtomheegfobcijaaGreatDoor.Am
set_option linter.unusedVariables false
set_option linter.unusedSimpArgs false
open Go.RowKit

section
variable {P : Program} {B : Fr}

/-- All that runs is let in; in a round of a loop over a function, or in none. -/
def fw (ro : Option Nat) : Fence := { Fence.wide with round := ro }
theorem fw_round0 : (fw none).round = none := rfl
theorem fw_round (ro : Option Nat) (l : Nat) : (fw ro).inRound l = fw (some l) := rfl
theorem calls_fw {ro : Option Nat} {n : Nat} {f : FuncId} {args : Array Value} {w : World} {R : Ending → World → Prop} (h : Calls P f args w R) : CallsIn (fw ro) n P f args w R :=
  (callsIn_wide (n := n)).2 h
theorem of_calls_fw {ro : Option Nat} {n : Nat} {f : FuncId} {args : Array Value} {w : World} {R : Ending → World → Prop} (h : CallsIn (fw ro) n P f args w R) : Calls P f args w R :=
  (callsIn_wide (n := n)).1 h
theorem rows_fw {ro : Option Nat} {n : Nat} {row : String} {args : Array Value} {w : World} {R : Value → World → Prop} (h : Rows P row args w R) : RowsIn (fw ro) n P row args w R :=
  fun c cs _ => let ⟨v, w', r, s⟩ := h c cs; ⟨v, w', r, stepsIn_wide.2 s⟩
theorem wpIn_of_wp {ro : Option Nat} {n : Nat} {o : Oper} {a : Act} {w : World} {K : Act → World → Prop} {Q : Exit → Act → World → Prop} (hd : ∀ c, o.op ≠ .defer c) (h : o.wp P a w K Q) : o.wpIn (fw ro) n P a w K Q := by
  refine ⟨fun _ _ => trivial, ?_⟩
  rw [Oper.semAt_eq _ _ _ hd]
  unfold Oper.wp at h
  generalize (execOp a.eval o).run P w = r at h ⊢
  cases r with
  | ok x w' =>
    cases x <;> simp only [Oper.upon, Oper.uponIn] at h ⊢
    case value => exact h
    case skip => exact h
    case defer => exact h
    case enter => exact ⟨(fun e => by cases e), calls_fw h⟩
    case row => exact ⟨(fun e => by cases e), rows_fw h⟩
    all_goals exact h.elim
  | halt x w' =>
    cases x <;> simp only [Oper.upon, Oper.uponIn] at h ⊢
    all_goals exact h

def DrawThm (P : Program) : Prop := ∀ (c : Oper → CallA), (∀ o, CallSound P (c o)) → ∀ lo, (∀ o, (c o).lo = lo) → ∀ (ro : Option Nat) (m : Nat) (B : Fr) (nt id : Nat) (ops : Array Oper) (st st' : St) (G : Gh) (a : Act) (w : World), regionOk ops.toList = true → (mixed ops.toList = true → (∀ o, mixAt ops.toList o = true → FullLock (c o) ∧ CallFill (c o) ∧ CallOwn (c o)) ∧ ∀ o, CallLen (c o)) → ∀ lt : Option WS, lt.isSome = late ops.toList → runOps c P nt (some (st.H.length, lt)) ops.toList ops.toList { st with H := st.H ++ List.replicate (allocs ops.toList) none } = some st' → G.lo ≤ lo → Rel P B G nt st a w →
  ∀ Q, (∀ a' w' G', Rel P B G' nt st' a' w' → Ext G w G' w' → Q Exit.normal a' w') → (Code.region id ops true).wpIn (fw ro) m P Q a w

structure POk (P : Program) : Prop where
  num : NoNum P
  code : ∀ (f : Nat) (fn : Func) (c : Code), P.funcs[f]? = some fn → fn.body = some c → codeOk c = true
  draw : DrawThm P
  size : ∀ (f : Nat) (fn : Func), P.funcs[f]? = some fn → fn.ntmps ≤ DEF

/-! ### a loop's record turns -/
theorem rec_inv {H : List (Option Blk)} {id s kd x : Nat} {y : AV} (h : getRec H id = some (s, kd, x, y)) : ∃ k, H[id]? = some (some k) ∧ Nat.beq k.e LOOP = true ∧ ∃ a b c s' kd' x', k.cs = [.int a s', .int b kd', .int c x', y] ∧ s = Int.toNat s' ∧ kd = Int.toNat kd' ∧ x = Int.toNat x' := by
  unfold getRec at h
  split at h
  · rename_i e a s' b kd' c x' y' hk
    cases he : Nat.beq e LOOP with
    | false => rw [he] at h; cases h
    | true =>
      rw [he] at h
      simp only [cond_true, Option.some.injEq, Prod.mk.injEq] at h
      obtain ⟨h1, h2, h3, h4⟩ := h
      exact ⟨_, hk, he, a, b, c, s', kd', x', by rw [h4], h1.symm, h2.symm, h3.symm⟩
  · cases h

theorem loop_step {G : Gh} {w : World} {H : List (Option Blk)} (g : GOk G w) (r : HeapRel P G H w) {id l s kd x : Nat} {y : AV} (hf : G.f id = some l) (hid : G.lo ≤ id) (h : getRec H id = some (s, kd, x, y)) :
    ∃ (L : Loop), w.heap[l]? = some (.loop L) ∧ L.state = stateOf s ∧ L.pending = pendOf kd x ∧
      (∃ vars env, y = .rcd vars L.tmps.size env L.params.toList L.assign L.body ∧ (codeOk L.assign && noRange L.assign && (codeOk L.body && noRange L.body)) = true ∧ ∀ q, Rep P (G.mem w) (look env q) (L.tmps.getD q undef)) ∧
      ∀ s' kd' x', Ext G w G (w.putObj l (.loop { L with state := stateOf s', pending := pendOf kd' x' })) ∧ GOk G (w.putObj l (.loop { L with state := stateOf s', pending := pendOf kd' x' })) ∧
        HeapRel P G (H.set id (recA s' kd' x' y)) (w.putObj l (.loop { L with state := stateOf s', pending := pendOf kd' x' })) ∧
        (∀ lc z u, OwnAt P G w lc z u → OwnAt P G (w.putObj l (.loop { L with state := stateOf s', pending := pendOf kd' x' })) lc z u) ∧
        (∀ own, CellOwns P G H own w → CellOwns P G (H.set id (recA s' kd' x' y)) own (w.putObj l (.loop { L with state := stateOf s', pending := pendOf kd' x' }))) := by
  obtain ⟨k, hk, hke, a, b, c, s0, kd0, x0, hcs, hs0, hkd0, hx0⟩ := rec_inv h
  have hla : LoopAt1 P (G.mem w) w l k := by
    rcases (r.blk id l k hf hk).2 hke with h | ⟨m, es, cl, _, h2, _⟩ | h2
    · exact h
    rotate_right
    · rw [h2] at hcs
      unfold anyBlk at hcs
      injection hcs with h3 _
      cases h3
    · rcases h2 with h2 | h2
      · rw [h2] at hcs
        unfold mapBlk at hcs
        injection hcs with h3 _
        cases h3
      · rw [h2] at hcs
        unfold mapFz at hcs
        injection hcs with h3 _
        cases h3
  obtain ⟨L, st, kind, xx, vars, env, h1, h2, h3, h4, h5, h6⟩ := hla
  unfold recA at h2
  injection h2 with h2
  have hcs2 := congrArg Blk.cs h2
  rw [hcs] at hcs2
  simp only [List.cons.injEq, AV.int.injEq, and_true] at hcs2
  obtain ⟨⟨_, q1⟩, ⟨_, q2⟩, ⟨_, q3⟩, q4⟩ := hcs2
  have e1 : s = st := by rw [hs0, q1]; exact Int.toNat_natCast _
  have e2 : kd = kind := by rw [hkd0, q2]; exact Int.toNat_natCast _
  have e3 : x = xx := by rw [hx0, q3]; exact Int.toNat_natCast _
  subst e1 e2 e3
  have hlt : l < w.heap.size := (Array.getElem?_eq_some_iff.1 h1).1
  have hidlt : id < H.length := (List.getElem?_eq_some_iff.1 hk).1
  have hkne : k.cs ≠ [] := by rw [hcs]; simp
  have hkz : isFz k = false := by unfold isFz; rw [hcs]
  refine ⟨L, h1, h3, h4, ⟨vars, env, q4, h5, h6⟩, fun s' kd' x' => ?_⟩
  generalize hL' : ({ L with state := stateOf s', pending := pendOf kd' x' } : Loop) = L'
  have hnew : (w.putObj l (.loop L')).heap[l]? = some (.loop L') := World.putObj_heap_same hlt
  have hoth : ∀ q, q ≠ l → (w.putObj l (.loop L')).heap[q]? = w.heap[q]? := fun q hq => World.putObj_heap_other hq
  have hext : Ext G w G (w.putObj l (.loop L')) := by
    refine ⟨rfl, rfl, rfl, by rw [World.putObj_size]; exact Nat.le_refl _, ?_, fun _ _ h => h, fun _ => Nat.le_refl _, ?_, rfl⟩
    · intro b o v hv
      have hb : b ≠ l := by
        rintro rfl
        unfold pmOf at hv
        split at hv
        · simp [World.cell?, h1] at hv
        · cases hv
      unfold pmOf at hv ⊢
      split at hv
      · rename_i hlt'; rw [if_pos hlt', World.cell?_of_block (hoth b hb)]; exact hv
      · cases hv
    · intro b hb hn
      have hbl : b ≠ l := by rintro rfl; exact hn (.inl ⟨⟨id, hid, hf⟩, r.lim id _ k hf hk hkne hkz⟩)
      exact ⟨hoth b hbl, rfl, hn, fun _ h => h⟩
  have hgok : GOk G (w.putObj l (.loop L')) := ⟨fun i b h => by rw [World.putObj_size]; exact g.fin i b h, fun b hb => g.new b (by rw [World.putObj_size] at hb; exact hb), hext.held g.held⟩
  have hset : ∀ j q, (H.set id (recA s' kd' x' y))[j]? = some (some q) → (j = id ∧ some q = recA s' kd' x' y) ∨ (j ≠ id ∧ H[j]? = some (some q)) := by
    intro j q hj
    by_cases hji : j = id
    · subst hji
      rw [List.getElem?_set_self hidlt] at hj
      injection hj with hj
      exact .inl ⟨rfl, hj.symm⟩
    · rw [List.getElem?_set_ne (fun e => hji e.symm)] at hj
      exact .inr ⟨hji, hj⟩
  have hone : ∀ j q, G.f j = some l → j ≠ id → H[j]? = some (some q) → False := by
    intro j q hj hne hq
    by_cases hqn : q.cs = []
    · obtain ⟨cs, hc, _⟩ := (r.blk j l q hj hq).1 ((r.blk j l q hj hq).cs_nil hqn)
      rw [h1] at hc; cases hc
    · exact hne (r.inj j id l q k hj hf hq hk hqn hkne)
  have hrne : ∀ q : Blk, some q = recA s' kd' x' y → q.cs ≠ [] := by
    intro q hq; unfold recA at hq; injection hq with hq; rw [hq]; simp
  have hheap : HeapRel P G (H.set id (recA s' kd' x' y)) (w.putObj l (.loop L')) := by
    refine ⟨fun i b hi => by unfold recA; exact (r.dom i b hi).set _ _, fun i b q hi hq => ?_, fun i j b q1 q2 hi hj hq1 hq2 n1 n2 => ?_, fun i b q hi hq hn => ?_⟩
    · rcases hset i q hq with ⟨rfl, e⟩ | ⟨hne, hq⟩
      · rw [hf] at hi; injection hi with hi; subst hi
        have hqe : Nat.beq q.e LOOP = true := by unfold recA at e; injection e with e; rw [e]; exact Nat.beq_refl _
        refine ⟨fun e' => (by rw [hqe] at e'; cases e'), fun _ => .inl ⟨L', s', kd', x', vars, env, hnew, ?_, ?_, ?_, ?_, fun s => ?_⟩⟩
        · rw [e, q4, ← hL']
        · rw [← hL']
        · rw [← hL']
        · rw [← hL']; exact h5
        · have ht : L'.tmps = L.tmps := by rw [← hL']
          rw [ht]; exact (h6 s).mono hext.mem
      · have hbl : b ≠ l := by rintro rfl; exact hone i q hi hne hq
        exact (r.blk i b q hi hq).to (hoth b hbl) rfl hext.mem
    · rcases hset i q1 hq1 with ⟨b1, _⟩ | ⟨b1, hq1⟩ <;> rcases hset j q2 hq2 with ⟨b2, _⟩ | ⟨b2, hq2⟩
      · rw [b1, b2]
      · rw [b1, hf] at hi; injection hi with hi; subst hi; exact (hone j q2 hj b2 hq2).elim
      · rw [b2, hf] at hj; injection hj with hj; subst hj; exact (hone i q1 hi b1 hq1).elim
      · exact r.inj i j b q1 q2 hi hj hq1 hq2 n1 n2
    · rcases hset i q hq with ⟨rfl, _⟩ | ⟨hne, hq⟩
      · rw [hf] at hi; injection hi with hi; subst hi; exact fun _ => r.lim _ l k hf hk hkne hkz
      · exact r.lim i b q hi hq hn
  have hown : ∀ lc z u, OwnAt P G w lc z u → OwnAt P G (w.putObj l (.loop L')) lc z u := by
    intro lc z u ro e xs hx
    obtain ⟨sz, cells, a1, a2, a3, a4⟩ := ro e xs hx
    refine ⟨sz, cells, a1, a2, a3.kept (grownBy_putObj' w l _) (row := some l) ?_, a4⟩
    cases hu : u.ownBlock with
    | none => exact .inl rfl
    | some q =>
      refine .inr ?_
      intro e
      injection e with e
      subst e
      have := (a4 q hu).1
      rw [(g.fin id q hf).2] at this
      cases this
  refine ⟨hext, hgok, hheap, hown, fun own ho => ⟨fun i off b q cs hm hi hq hb => ?_, fun i off hm => by unfold recA; exact (ho.dom i off hm).set _ _⟩⟩
  rcases hset i q hq with ⟨rfl, _⟩ | ⟨hne, hq⟩
  · rw [hf] at hi; injection hi with hi; subst hi; rw [hnew] at hb; cases hb
  · have hbl : b ≠ l := by rintro rfl; rw [hnew] at hb; cases hb
    rw [hoth b hbl] at hb
    exact hown _ _ _ (ho.cell i off b q cs hm hi hq hb)

/-! ### what a round is to do -/
def YieldSound (P : Program) (lo : Nat) (yl : Nat → List AV → List (Option Blk) → List Loc → Option Out) : Prop := ∀ id args H own out, yl id args H own = some out →
  ∀ (G : Gh) (w : World) (vals : Array Value) (l : Nat), G.f id = some l → G.lo ≤ lo → GOk G w → HeapRel P G H w → CellOwns P G H own w → ArgsRep P (G.mem w) args vals → ∀ (ro : Option Nat) (m : Nat),
    ∃ L, w.heap[l]? = some (.loop L) ∧ vals.size = L.params.size ∧
      RoundIn (fw ro) m P l L.fn ((L.params.zip vals).foldl (fun tmps (t, a) => tmps.setIfInBounds t a) L.tmps) L.assign L.body w fun e w' => ∃ v G', e = .returned v ∧ CallDone P G w out v w' G'

theorem not_defer {call : CallA} {nt : Nat} {pre : Option (Nat × Option WS)} {ops : List Oper} {o : Oper} {st st' : St} (h : stepOp call P nt pre ops o st = some st') : ∀ c, o.op ≠ .defer c := by
  intro c hc
  obtain ⟨dst, op, ty, pos, after, guard⟩ := o
  simp only at hc
  subst hc
  have e1 : slElem P { dst := dst, op := .defer c, type := ty, pos := pos, after := after, guard := guard } = none := rfl
  unfold stepOp coreP at h
  cases pre with
  | none =>
    simp only [coreS, e1, isMapO, isMapW, isMapR, Bool.or_false, cond_false, core, plainRes, pureOp, Option.map_none] at h
    cases h
  | some p =>
    obtain ⟨b, lt⟩ := p
    have e2 : allocOp { dst := dst, op := .defer c, type := ty, pos := pos, after := after, guard := guard } = false := rfl
    simp only [e2, cond_false, coreS, e1, isMapO, isMapW, isMapR, Bool.or_false, core, plainRes, pureOp, Option.map_none] at h
    cases (lateNo b lt ops { dst := dst, op := .defer c, type := ty, pos := pos, after := after, guard := guard } st.env) <;> simp at h

theorem yield_wp {nt : Nat} {G : Gh} {w : World} {st st' : St} {a : Act} {yl : Nat → List AV → List (Option Blk) → List Loc → Option Out} {o : Oper} {K : Act → World → Prop} {Q : Exit → Act → World → Prop} {ro : Option Nat} {m : Nat} {lo : Nat} (hyl : YieldSound P lo yl) (hgl : G.lo ≤ lo)
    (hR : Rel P B G nt st a w) {id : Nat} {vs : List AV} (hy : yieldOp st.env o = some (id, vs)) {out : Out} (h : yl id vs st.H (canon (st.own.filter Loc.isCell)) = some out)
    (hp : Res.put ⟨out.1, out.2.1, st.own.filter (fun l => !l.isCell) ++ out.2.2.filter Loc.isCell, false⟩ nt st.env o.dst = some st')
    (hK : ∀ a' w' G', Rel P B G' nt st' a' w' → Ext G w G' w' → K a' w') : o.wpIn (fw ro) m P a w K Q := by
  obtain ⟨dst, op, ty, pos, after, guard⟩ := o
  unfold yieldOp at hy
  simp only at hy hp
  split at hy
  case h_2 => cases hy
  rename_i f args at_
  split at hy
  case h_2 => cases hy
  rename_i id' hf
  cases hvs : evalL st.env args.toList with
  | none => rw [hvs] at hy; cases hy
  | some vs' =>
    rw [hvs] at hy
    simp only [Option.map_some, Option.some.injEq, Prod.mk.injEq] at hy
    obtain ⟨e1, e2⟩ := hy
    subst e1 e2
    have rf := hR.env.opd hf
    generalize hfv : a.eval f = fv at rf
    cases rf with
    | yld _ l hl =>
      have hl : G.f id' = some l := hl
      have har := evalL_args hR.env hvs
      obtain ⟨L, hL, hsz, hround⟩ := hyl id' vs' st.H _ out h G.callee w (args.map a.eval) l hl hgl (callee_gok hR.ok) ⟨hR.heap.dom, hR.heap.blk, hR.heap.inj, hR.heap.lim⟩
        ⟨fun id off b k cs hm hf hk hb => callee_own (hR.own.cell id off b k cs (List.mem_filter.1 (mem_canon.1 hm)).1 hf hk hb), fun id off hm => hR.own.dom id off (List.mem_filter.1 (mem_canon.1 hm)).1⟩ har ro (m - 1)
      refine ⟨fun _ _ => trivial, ?_⟩
      rw [Oper.semAt_eq _ _ _ (by intro c e; cases e)]
      have hrun : (execOp a.eval { dst := dst, op := .call { callee := .value f, args := args, argTypes := at_ }, type := ty, pos := pos, after := after, guard := guard }).run P w = .ok (.round l L.fn ((L.params.zip (args.map a.eval)).foldl (fun tmps (t, a) => tmps.setIfInBounds t a) L.tmps) L.assign L.body) w := by
        simp only [execOp, resolve, hfv, Deferred.ofValue, Sem.run_bind, Sem.run_pure, Result.andThen_ok, invoke, Array.empty_append]
        exact run_yield hL hsz
      rw [hrun, Oper.uponIn_round]
      refine ⟨(fun e => by cases e), hround.mono ?_⟩
      rintro e w' ⟨v, G', rfl, hdone⟩
      obtain ⟨d0, hd0⟩ := fresh_slot (st.own.filter (fun l => !l.isCell) ++ out.2.2.filter Loc.isCell)
      obtain ⟨d, hd1, hd2⟩ : ∃ d, (∀ q, dst = some q → q = d) ∧ (dst = none → Loc.slot d ∉ st.own.filter (fun l => !l.isCell) ++ out.2.2.filter Loc.isCell) := by
        cases hdst : dst with
        | none => exact ⟨d0, (fun q e => by cases e), fun _ => hd0⟩
        | some q => exact ⟨q, (fun q' e => by injection e with e; exact e.symm), fun e => by cases e⟩
      have hd := back_done hR.ok hR.heap hR.own hdone d
      obtain ⟨h1, h2⟩ := put_sound hR hp d hd1 hd2 hd
      exact hK _ _ _ h1 h2

theorem yielded_rel {w : World} {M : Mem} {ops : Array Oper} {env : List (Nat × AV)} {a : Act} (he : EnvRel P M env a) {o : Oper} {b : Bool} (h : wantedA ops.toList env o = some b) : Region.wanted o (yielded ops a.tmps) = b := by
  unfold wantedA at h
  unfold Region.wanted
  split at h
  · rename_i hg; injection h with h; subst h; rw [hg]
  · rename_i j want hg
    rw [hg]
    simp only
    split at h
    · rename_i d op ty pos after guard hj
      have hj' : ops[j]? = some { dst := some d, op := op, type := ty, pos := pos, after := after, guard := guard } := by rw [← hj, Array.getElem?_toList]
      have hr := he d
      unfold yielded
      rw [hj']
      simp only [Option.bind_some]
      split at h
      · rename_i q hq
        injection h with h; subst h
        rw [hq] at hr
        have := bool_inv hr
        rw [Array.getD_eq_getD_getElem?] at this
        cases ht : a.tmps[d]? with
        | none => rw [ht] at this; cases this
        | some v =>
          rw [ht] at this
          have hv : v = .bool q := this
          subst hv
          cases q <;> cases want <;> rfl
      · rename_i hq
        injection h with h; subst h
        rw [hq] at hr
        rw [Array.getD_eq_getD_getElem?] at hr
        cases ht : a.tmps[d]? with
        | none => cases want <;> rfl
        | some v =>
          rw [ht] at hr
          have hr' : Rep P M (.tup []) v := hr
          cases hr'
          cases want <;> rfl
      · cases h
    · cases h

theorem unwanted_put {nt : Nat} {w : World} {st st' : St} {a : Act} {G : Gh} {dst : Option Nat} (hR : Rel P B G nt st a w) (hp : Res.put ⟨.tup [], st.H, st.own, false⟩ nt st.env dst = some st') : Rel P B G nt st' (a.put dst undef) w := by
  obtain ⟨d0, hd0⟩ := fresh_slot st.own
  obtain ⟨d, hd1, hd2⟩ : ∃ d, (∀ q, dst = some q → q = d) ∧ (dst = none → Loc.slot d ∉ st.own) := by
    cases hdst : dst with
    | none => exact ⟨d0, (fun q e => by cases e), fun _ => hd0⟩
    | some q => exact ⟨q, (fun q' e => by injection e with e; exact e.symm), fun e => by cases e⟩
  exact (put_sound hR hp d hd1 hd2 (done_same hR.ok hR.heap hR.own d (.tup [] #[] rfl (fun i hi => by simp at hi)))).1

theorem pushD_rep {M : Mem} {x c y : AV} (h : pushD x c = some y) (v : Value) : Rep P M y v := by
  unfold pushD at h
  split at h <;> first | (injection h with h; subst h; exact .rcd _ _ _ _ _ _ _) | cases h
theorem pushD_defs {x c y : AV} {l : List (Nat × AV)} (h : pushD x c = some y) (hl : defsOf x = some l) : defsOf y = some ((0, c) :: l) := by
  unfold pushD at h
  split at h
  · injection h with h; subst h; injection hl with hl; subst hl; rfl
  · injection h with h; subst h; injection hl with hl; subst hl; rfl
  · cases h
theorem defer_wp {nt : Nat} {G : Gh} {w : World} {st st' : St} {a : Act} {o : Oper} {K : Act → World → Prop} {Q : Exit → Act → World → Prop} {m : Nat} (hB : B ≠ .bare)
    (hR : Rel P B G nt st a w) (h : deferZ o st = some (some st'))
    (hK : ∀ a' w' G', Rel P B G' nt st' a' w' → Ext G w G' w' → K a' w') : o.wpIn (fw none) m P a w K Q := by
  obtain ⟨dst, op, ty, pos, after, guard⟩ := o
  unfold deferZ at h
  simp only at h
  split at h
  case h_2 => injection h with h; cases h
  case h_3 => cases h
  rename_i f args at_
  injection h with h
  split at h
  case h_2 => cases h
  rename_i g cap hargs hf
  cases hp : pushD (look st.env DEF) (.fn g cap) with
  | none => rw [hp] at h; cases h
  | some y =>
    rw [hp] at h
    simp only [Option.map_some, Option.some.injEq] at h
    subst h
    have rf := hR.env.opd hf
    generalize hfv : a.eval f = fv at rf
    cases rf with
    | fn _ _ caps hcl hcr =>
    have hae : Array.map a.eval args = #[] := by
      apply Array.ext'
      rw [Array.toList_map, hargs]
      rfl
    refine ⟨fun _ _ => trivial, ?_⟩
    have hrun : (Oper.semAt (fw none).round a.eval { dst := none, op := .defer { callee := .value f, args := args, argTypes := at_ }, type := ty, pos := pos, after := after, guard := guard }).run P w = .ok (.defer { target := .fn (.func g) caps, args := #[] }) w := by
      rw [fw_round0]
      simp only [Oper.semAt, execOp, resolve, hfv, Deferred.ofValue, Sem.run_bind, Sem.run_pure, Result.andThen_ok, hae, Array.empty_append]
    rw [hrun, Oper.uponIn_defer]
    refine hK _ w G ?_ (Ext.refl _ _)
    show Rel P B G nt ⟨(DEF, y) :: st.env, st.H, st.own⟩ { a with defers := { target := .fn (.func g) caps, args := #[] } :: a.defers } w
    refine ⟨hR.ok, hR.heap, ⟨fun s hs => ?_, hR.own.cell, hR.own.dom⟩, fun s => ?_, hR.size, ?_⟩
    · show OwnAt P G w (.slot s) (look ((DEF, y) :: st.env) s) (slotsOf a s)
      rw [look_cons]
      by_cases hs' : s = DEF
      · rw [if_pos hs']
        intro e xs hx
        unfold pushD at hp
        split at hp <;> first | (injection hp with hp; subst hp; cases hx) | cases hp
      · rw [if_neg hs']; exact hR.own.slot s hs
    · show Rep P (G.mem w) (look ((DEF, y) :: st.env) s) _
      rw [look_cons]
      by_cases hs' : s = DEF
      · rw [if_pos hs']; exact pushD_rep hp _
      · rw [if_neg hs']; exact hR.env s
    · have hd := hR.defers
      cases B with
      | round => trivial
      | bare => exact absurd rfl hB
      | frame B =>
        obtain ⟨hn, h0, rs, l, h1, h2, h4, h3⟩ := hd
        refine ⟨hn, h0, rs, (0, .fn g cap) :: l, ?_, .call 0 g cap caps (.fn g cap caps hcl hcr) h2, h4, h3⟩
        rw [look_cons, if_pos rfl]
        exact pushD_defs hp h1
theorem deferZ_some {o : Oper} {st : St} {r : Option St} (h : deferZ o st = some r) : isDefer o = true := by
  unfold deferZ at h
  unfold isDefer
  split at h
  · rename_i e; rw [e]
  · rename_i e; rw [e]
  · cases h

/-- Bytes that lie in memory are made a string. -/
theorem conv_wp {nt : Nat} {G : Gh} {w : World} {st st' : St} {a : Act} {o : Oper} {r : Res} {K : Act → World → Prop} {Q : Exit → Act → World → Prop} {ro : Option Nat} {m : Nat}
    (hR : Rel P B G nt st a w) (h : convZ P o st = some r) (hp : r.put nt st.env o.dst = some st') (hK : ∀ a' w' G', Rel P B G' nt st' a' w' → Ext G w G' w' → K a' w') : o.wpIn (fw ro) m P a w K Q := by
  obtain ⟨d0, hd0⟩ := fresh_slot r.own
  obtain ⟨d, hd1, hd2⟩ : ∃ d, (∀ q, o.dst = some q → q = d) ∧ (o.dst = none → Loc.slot d ∉ r.own) := by
    cases hdst : o.dst with
    | none => exact ⟨d0, (fun q e => by cases e), fun _ => hd0⟩
    | some q => exact ⟨q, (fun q' e => by injection e with e; exact e.symm), fun e => by cases e⟩
  obtain ⟨h1, h2, h3, src, dt, x, e, id, off, len, s, h4, h5, h6, h7⟩ := convZ_some h
  obtain ⟨a1, a2, a3, a4, cs, a5, a6⟩ := bytesA_some h6
  obtain ⟨rv, rH, rown, rg⟩ := r
  simp only at h1 h2 h3 h7
  subst h1 h2 h3 h7
  obtain ⟨dst, op, ty, pos, after, guard⟩ := o
  simp only at h4
  subst h4
  refine wpIn_of_wp (fun c e => by cases e) ?_
  unfold Oper.wp
  have hrep := hR.env.opd h5
  generalize hv : a.eval x = v at hrep
  cases hrep with
  | sl _ _ _ _ b cap sz hf hsz hz hb hl =>
    have hx : ∀ (xs : List AV) (s : List UInt8), xs.mapM byteA = some s → ∃ ns : List Int, xs = ns.map (AV.int .u8) ∧ s = ns.map fun n => UInt8.ofNat n.toNat := by
      intro xs
      induction xs with
      | nil => intro s h; simp at h; subst h; exact ⟨[], rfl, rfl⟩
      | cons x r ih =>
        intro s h
        rw [List.mapM_cons] at h
        cases hb : byteA x with
        | none => simp [hb] at h
        | some b =>
          cases hr : r.mapM byteA with
          | none => simp [hb, hr] at h
          | some bs =>
            simp [hb, hr] at h; subst h
            obtain ⟨ns, h1, h2⟩ := ih bs hr
            unfold byteA at hb
            split at hb
            · rename_i n
              injection hb with hb
              exact ⟨n :: ns, by rw [h1]; rfl, by rw [h2, ← hb]; rfl⟩
            · cases hb
    obtain ⟨ns, rfl, rfl⟩ := hx cs s a6
    unfold readCells at a5
    split at a5
    case h_2 => cases a5
    rename_i k hk
    split at a5
    case isFalse => cases a5
    rename_i hh
    injection a5 with a5
    obtain ⟨cells, hc1, hc2, hc3, hc4, hc5⟩ := blk_cell (hR.heap.blk id b k hf hk) hh.1
    have hlen : ns.length = len := by
      have := congrArg List.length a5
      rw [List.length_take, List.length_drop, List.length_map] at this
      omega
    have hrun := run_convert_bytes_arg w src e a1 a3 b off ns.length cap ns rfl (by
      intro j hj
      have hj2 : off + j < k.cs.length := by omega
      have hcell := hc2 (off + j) hj2
      have hrep := hc4 (off + j) hj2
      have hget : k.cs.getD (off + j) .undef = AV.int .u8 (ns[j]'hj) := by
        have : (ns.map (AV.int .u8))[j]? = some (AV.int .u8 (ns[j]'hj)) := by rw [List.getElem?_map, List.getElem?_eq_getElem hj]; rfl
        rw [← a5, List.getElem?_take, if_pos (by omega), List.getElem?_drop] at this
        rw [List.getD_eq_getElem?_getD, this]; rfl
      rw [hget] at hrep
      rw [hcell, List.getD_eq_getElem?_getD, List.getElem?_eq_getElem hj]
      have := int_inv hrep
      rw [this]; rfl) dt a2
    rw [hlen] at hrun
    have hrun2 : (execOp a.eval { dst := dst, op := .convert src dt x, type := ty, pos := pos, after := after, guard := guard }).run P w = .ok (.value (.string ⟨⟨ns.map fun n => UInt8.ofNat n.toNat⟩⟩)) w := by
      simp only [execOp, hv, Sem.run_bind, hrun, Result.andThen_ok, Sem.run_pure]
      rfl
    rw [hrun2, Oper.upon_value]
    obtain ⟨k1, k2⟩ := put_sound hR hp d hd1 hd2 (done_same hR.ok hR.heap hR.own d (.str _))
    exact hK _ _ _ k1 k2

/-- A region in the order of its text. -/
theorem list_tail {call : CallA} {yl : Nat → List AV → List (Option Blk) → List Loc → Option Out} {nt : Nat} {ops : Array Oper} {ro : Option Nat} {m : Nat} (hN : NoNum P) (hcall : CallSound P call) (hyl : YieldSound P call.lo yl) (tail : List Oper) : ∀ (l : List Oper), (okR ro B ∨ (l.all fun o => !(isDefer o)) = true) → ∀ (st st' : St) (G : Gh) (a : Act) (w : World), runOpsZ call yl P nt ops.toList l st = some st' → G.lo ≤ call.lo → Rel P B G nt st a w →
    ∀ Q, (∀ a' w' G', Rel P B G' nt st' a' w' → Ext G w G' w' → wpListIn (fw ro) m P ops Q tail a' w') → wpListIn (fw ro) m P ops Q (l ++ tail) a w := by
  intro l
  induction l with
  | nil =>
    intro _ st st' G a w h hgl hR Q hQ
    simp only [runOpsZ, Option.some.injEq] at h; subst h
    exact hQ a w G hR (Ext.refl _ _)
  | cons o r ih =>
    intro hd st st' G a w h hgl hR Q hQ
    have ih := ih (hd.imp (fun h => h) fun h => by simp only [List.all_cons, Bool.and_eq_true] at h; exact h.2)
    simp only [runOpsZ] at h
    split at h
    case h_2 => cases h
    rename_i st1 hst1
    unfold stepZ at hst1
    rw [List.cons_append]
    refine wpListIn_step fun K hK => ?_
    split at hst1
    · rename_i hw
      rw [yielded_rel (w := w) hR.env hw, if_pos rfl]
      have next : ∀ a' w' G', Rel P B G' nt st1 a' w' → Ext G w G' w' → K a' w' := fun a' w' G' hR' hE' => hK _ _ (ih st1 st' G' a' w' h (by rw [hE'.lo]; exact hgl) hR' Q fun a2 w2 G2 h2 e2 => hQ a2 w2 G2 h2 (hE'.trans e2))
      split at hst1
      · rename_i id vs hy
        split at hst1
        · rename_i x H' own' hyo
          exact yield_wp hyl hgl hR hy hyo hst1 next
        · cases hst1
      · split at hst1
        · rename_i hdz
          subst hst1
          rcases hd with ⟨rfl, hB⟩ | hd
          · exact defer_wp hB hR hdz next
          · simp only [List.all_cons, Bool.and_eq_true, deferZ_some hdz] at hd
            cases hd.1
        · split at hst1
          · rename_i r hcz
            exact conv_wp hR hcz hst1 next
          · exact wpIn_of_wp (not_defer hst1) (op_wp hN hcall hR hgl hst1 next)
    · rename_i hw
      rw [yielded_rel (w := w) hR.env hw]
      simp only [Bool.false_eq_true, if_false]
      exact ⟨fun _ _ => trivial, hK _ _ (ih st1 st' G _ w h hgl (unwanted_put hR hst1) Q hQ)⟩
    · cases hst1

theorem list_sound {call : CallA} {yl : Nat → List AV → List (Option Blk) → List Loc → Option Out} {nt : Nat} {ops : Array Oper} {ro : Option Nat} {m : Nat} (hN : NoNum P) (hcall : CallSound P call) (hyl : YieldSound P call.lo yl) (l : List Oper) (hd : okR ro B ∨ (l.all fun o => !(isDefer o)) = true) (st st' : St) (G : Gh) (a : Act) (w : World) (h : runOpsZ call yl P nt ops.toList l st = some st') (hgl : G.lo ≤ call.lo) (hR : Rel P B G nt st a w)
  (Q : Exit → Act → World → Prop) (hQ : ∀ a' w' G', Rel P B G' nt st' a' w' → Ext G w G' w' → Q Exit.normal a' w') : wpListIn (fw ro) m P ops Q l a w := by
  have := list_tail (ro := ro) (m := m) hN hcall hyl [] l hd st st' G a w h hgl hR Q hQ
  rw [List.append_nil] at this
  exact this

theorem keep_rel {nt : Nat} {G : Gh} {st : St} {a : Act} {w : World} (vars : List Nat) (h : Rel P B G nt st a w) : Rel P B G nt (keepD vars st) a w := by
  have hlook0 : ∀ s, look (keep vars st).env s = look st.env s ∨ (look (keep vars st).env s = .undef ∧ vars.any (Nat.beq s) = false) := by
    intro s
    show look (vars.map fun s => (s, look st.env s)) s = _ ∨ _
    induction vars with
    | nil => exact .inr ⟨rfl, rfl⟩
    | cons v r ih =>
      simp only [List.map_cons, look_cons]
      by_cases hs : s = v
      · subst hs; rw [if_pos rfl]; exact .inl rfl
      · rcases ih with ih | ⟨ih1, ih2⟩
        · rw [if_neg hs]; exact .inl ih
        · refine .inr ⟨by show look ((v, look st.env v) :: _) s = _; rw [look_cons, if_neg hs]; exact ih1, ?_⟩
          simp only [List.any_cons, ih2, Bool.or_false]
          cases hb : Nat.beq s v with
          | false => rfl
          | true => exact absurd (Nat.eq_of_beq_eq_true hb) hs
  have hown : (keepD vars st).own = (keep vars st).own := by
    unfold keepD
    split <;> rfl
  have hH : (keepD vars st).H = st.H := by
    unfold keepD
    split <;> rfl
  have hD : look (keepD vars st).env DEF = look st.env DEF := by
    unfold keepD
    split
    · rename_i e
      rcases hlook0 DEF with h | ⟨h, _⟩
      · exact h
      · rw [h, e]
    · show look ((DEF, look st.env DEF) :: _) DEF = _
      rw [look_cons, if_pos rfl]
  have hlook : ∀ s, look (keepD vars st).env s = look st.env s ∨ (look (keepD vars st).env s = .undef ∧ vars.any (Nat.beq s) = false) := by
    intro s
    by_cases hs : s = DEF
    · subst hs; exact .inl hD
    · have e : look (keepD vars st).env s = look (keep vars st).env s := by
        unfold keepD
        split
        · rfl
        · show look ((DEF, look st.env DEF) :: _) s = _
          rw [look_cons, if_neg hs]
      rw [e]; exact hlook0 s
  refine ⟨h.ok, by rw [hH]; exact h.heap, ?_, ?_, h.size, by rw [hD]; exact h.defers⟩
  rw [hH, hown]
  refine ⟨?_, ?_, ?_⟩
  · intro s hs
    have hm := List.mem_filter.1 hs
    have := h.own.slot s hm.1
    rcases hlook s with e | ⟨_, e2⟩
    · rw [e]; exact this
    · have h2 : vars.any (Nat.beq s) = true := hm.2
      rw [e2] at h2; cases h2
  · intro id off b k cs hm
    exact h.own.cell id off b k cs (List.mem_filter.1 hm).1
  · intro id off hm
    exact h.own.dom id off (List.mem_filter.1 hm).1
  · intro s
    rcases hlook s with e | ⟨e, _⟩
    · rw [e]; exact h.env s
    · rw [e]; exact .undef _

def exitOf : Ex → Exit
  | .normal => .normal
  | .exit id => .exit id
  | .ret => .ret
  | .goto l => .goto l

def CodeSound (P : Program) (lo : Nat) (ex : (Nat → List Nat) → Nat → Code → St → Option (Ex × St)) : Prop := ∀ vars nt c st e st', ex vars nt c st = some (e, st') → codeOk c = true → ∀ (ro : Option Nat) (m : Nat) (B : Fr), (okR ro B ∨ noRange c = true) → ∀ G a w, G.lo ≤ lo → Rel P B G nt st a w →
  ∀ Q, (∀ a' w' G', Rel P B G' nt st' a' w' → Ext G w G' w' → Q (exitOf e) a' w') → c.wpIn (fw ro) m P Q a w

/-! ### rounds -/
theorem put_all {M : Mem} : ∀ (ps : List Nat) (xs : List AV) (vs : List Value) (env : List (Nat × AV)) (tmps : Array Value), xs.length = ps.length → vs.length = ps.length → (∀ i, i < xs.length → Rep P M (xs.getD i .undef) (vs.getD i undef)) → (∀ p ∈ ps, p < tmps.size) → (∀ q, Rep P M (look env q) (tmps.getD q undef)) →
    ((ps.zip vs).foldl (fun tmps (t, a) => tmps.setIfInBounds t a) tmps).size = tmps.size ∧ ∀ q, Rep P M (look (putAll ps xs env) q) (((ps.zip vs).foldl (fun tmps (t, a) => tmps.setIfInBounds t a) tmps).getD q undef) := by
  intro ps
  induction ps with
  | nil =>
    intro xs vs env tmps h1 h2 h3 h4 h5
    refine ⟨rfl, fun q => ?_⟩
    cases xs with
    | nil => exact h5 q
    | cons x r => cases h1
  | cons p ps ih =>
    intro xs vs env tmps h1 h2 h3 h4 h5
    cases xs with
    | nil => cases h1
    | cons x xs =>
    cases vs with
    | nil => cases h2
    | cons v vs =>
      have hp := h4 p (by simp)
      obtain ⟨a1, a2⟩ := ih xs vs ((p, x) :: env) (tmps.setIfInBounds p v) (by simpa using h1) (by simpa using h2) (fun i hi => by
        have := h3 (i + 1) (by simp; omega)
        simpa using this) (fun q hq => by rw [Array.size_setIfInBounds]; exact h4 q (by simp [hq])) (fun q => by
        rw [look_cons]
        by_cases hq : q = p
        · subst hq
          rw [if_pos rfl]
          have := h3 0 (by simp)
          simpa [Array.getD_eq_getD_getElem?, hp] using this
        · rw [if_neg hq]
          have : (tmps.setIfInBounds p v).getD q undef = tmps.getD q undef := by
            simp only [Array.getD_eq_getD_getElem?]
            rw [Array.getElem?_setIfInBounds_ne (fun e => hq e.symm)]
          rw [this]; exact h5 q)
      refine ⟨?_, a2⟩
      simp only [List.zip_cons_cons, List.foldl_cons]
      rw [a1, Array.size_setIfInBounds]

theorem CallDone.back {G G0 G1 : Gh} {w0 w w' : World} {out : Out} {v : Value} (e : Ext G0 w0 G w) (h : CallDone P G w out v w' G1) : CallDone P G0 w0 out v w' G1 := ⟨e.trans h.ext, h.ok, h.heap, h.rep, h.own⟩
theorem Rel.cells {nt : Nat} {G : Gh} {st : St} {a : Act} {w : World} (h : Rel P B G nt st a w) : CellOwns P G st.H (st.own.filter Loc.isCell) w :=
  ⟨fun id off b k cs hm => h.own.cell id off b k cs (List.mem_filter.1 hm).1, fun id off hm => h.own.dom id off (List.mem_filter.1 hm).1⟩

theorem yield_sound {lo : Nat} {ex : (Nat → List Nat) → Nat → Code → St → Option (Ex × St)} (hex : CodeSound P lo ex) : YieldSound P lo (yieldA lo ex) := by
  intro id args H own out h G w vals l hf hgl g hH ho har ro m
  unfold yieldA at h
  split at h
  case h_2 => cases h
  rename_i x0 vars nt env ps assign body hrec0
  have hid : G.lo ≤ id := by
    cases hb : Nat.ble lo id with
    | true => exact Nat.le_trans hgl (Nat.ble_eq.mp hb)
    | false => rw [hb] at hrec0; cases hrec0
  have hrec : getRec H id = some (0, 0, x0, .rcd vars nt env ps assign body) := by
    cases hb : Nat.ble lo id with
    | true => rw [hb] at hrec0; exact hrec0
    | false => rw [hb] at hrec0; cases hrec0
  split at h
  case isFalse => cases h
  rename_i hc
  obtain ⟨hlen, hall⟩ := hc
  obtain ⟨L, hL, hst, hpend, ⟨vars', env', hy, hcode, henv⟩, hstep⟩ := loop_step g hH hf hid hrec
  injection hy with q1 q2 q3 q4 q5 q6
  subst q1 q3 q4 q5 q6
  simp only [Bool.and_eq_true] at hcode
  obtain ⟨⟨c1, c2⟩, c3, c4⟩ := hcode
  have hvs : vals.size = L.params.size := by rw [har.1, hlen, Array.length_toList]
  refine ⟨L, hL, hvs, roundIn_of_wpIn trivial ?_⟩
  rw [fw_round]
  have hfold : (L.params.zip vals).foldl (fun tmps (t, a) => tmps.setIfInBounds t a) L.tmps = (L.params.toList.zip vals.toList).foldl (fun tmps (t, a) => tmps.setIfInBounds t a) L.tmps := by
    rw [← Array.foldl_toList, Array.toList_zip]
  obtain ⟨s1, s2⟩ := put_all (P := P) (M := G.mem w) L.params.toList args vals.toList env L.tmps hlen (by rw [Array.length_toList, Array.length_toList, hvs]) (fun i hi => by
      have := har.2 i hi
      simpa [List.getD_eq_getElem?_getD, Array.getD_eq_getD_getElem?] using this) (fun p hp => by
      have := List.all_eq_true.1 hall p hp
      rw [← q2]
      exact Nat.blt_eq.mp this) henv
  have hR0 : Rel P .round G nt ⟨putAll L.params.toList args env, H, own.filter Loc.isCell⟩ { tmps := (L.params.zip vals).foldl (fun tmps (t, a) => tmps.setIfInBounds t a) L.tmps, defers := [] } w := by
    refine ⟨g, hH, ⟨fun s hs => ?_, fun i off b k cs hm => ho.cell i off b k cs (List.mem_filter.1 hm).1, fun i off hm => ho.dom i off (List.mem_filter.1 hm).1⟩, fun s => ?_, ?_, trivial⟩
    · have := (List.mem_filter.1 hs).2; cases this
    · rw [hfold]; exact s2 s
    · rw [hfold, q2]; exact s1
  split at h
  case h_2 => cases h
  rename_i t1 ht1
  refine hex vars nt L.assign _ .normal t1 ht1 c1 (some l) m _ (.inr c2) G _ w hgl hR0 _ ?_
  intro a1 w1 G1 hR1 hE1
  split at h
  case h_2 => cases h
  rename_i x1 y1 hrec1
  have hf1 : G1.f id = some l := hE1.f _ _ hf
  obtain ⟨L1, hL1, hst1, hpend1, hdat1, hstep1⟩ := loop_step hR1.ok hR1.heap hf1 (by rw [hE1.lo]; exact hid) hrec1
  obtain ⟨e1, g1, r1, o1, _⟩ := hstep1 1 0 0
  have hw2 : ({ L1 with state := LoopState.busy } : Loop) = { L1 with state := stateOf 1, pending := pendOf 0 0 } := by
    have : L1.pending = none := hpend1
    cases L1; simp only at this; subst this; rfl
  refine ⟨_, run_beginRound hL1 (by rw [hst1]; rfl), ?_⟩
  rw [hw2]
  split at h
  case h_2 => cases h
  rename_i e t2 ht2
  have hR2 : Rel P .round G1 nt ⟨t1.env, t1.H.set id (recA 1 0 0 y1), t1.own⟩ a1 (w1.putObj l (.loop { L1 with state := stateOf 1, pending := pendOf 0 0 })) := by
    obtain ⟨_, _, _, _, o2⟩ := hstep1 1 0 0
    have o3 := o2 _ hR1.cells
    exact ⟨g1, r1, ⟨fun s hs => o1 _ _ _ (hR1.own.slot s hs), fun i off b k cs hm hi hk hb => o3.cell i off b k cs (List.mem_filter.2 ⟨hm, rfl⟩) hi hk hb, fun i off hm => o3.dom i off (List.mem_filter.2 ⟨hm, rfl⟩)⟩, fun s => e1.rep (hR1.env s), hR1.size, trivial⟩
  refine hex vars nt L.body _ e t2 ht2 c3 (some l) m _ (.inr c4) G1 a1 _ (by rw [hE1.lo]; exact hgl) hR2 _ ?_
  intro a3 w3 G3 hR3 hE3
  split at h
  case h_2 => cases h
  rename_i s2' k2' x2 y2 hrec3
  have hf3 : G3.f id = some l := hE3.f _ _ (e1.f _ _ hf1)
  obtain ⟨L3, hL3, hst3, hpend3, hdat3, hstep3⟩ := loop_step hR3.ok hR3.heap hf3 (by rw [hE3.lo, hE1.lo]; exact hid) hrec3
  have hE : Ext G w G3 w3 := (hE1.trans e1).trans hE3
  have fin : ∀ (b : Bool) (jump : Option Code) (s' kd' x' : Nat), b = jump.isNone → (if jump.isNone then LoopState.ready else LoopState.done) = stateOf s' → jump = pendOf kd' x' → out = (.bool b, t2.H.set id (recA s' kd' x' y2), t2.own.filter Loc.isCell) →
      ∃ v w', (Instr.endRound l jump).run P w3 = .ok v w' ∧ ∃ v' G', Ending.returned v = .returned v' ∧ CallDone P G w out v' w' G' := by
    intro b jump s' kd' x' hb hs hj ho'
    obtain ⟨e4, g4, r4, o4, o5⟩ := hstep3 s' kd' x'
    refine ⟨_, _, run_endRound jump hL3, _, G3, rfl, ?_⟩
    rw [hs]
    have : ({ L3 with state := stateOf s', pending := jump } : Loop) = { L3 with state := stateOf s', pending := pendOf kd' x' } := by rw [hj]
    rw [this, ho']
    refine ⟨hE.trans e4, g4, r4, ?_, o5 _ hR3.cells⟩
    rw [← hb]; exact .bool _
  cases e with
  | normal => injection h with h; exact fin true none 0 0 0 rfl rfl rfl h.symm
  | ret => injection h with h; exact fin false (some .ret) 2 1 0 rfl rfl rfl h.symm
  | exit i => injection h with h; exact fin false (some (.exit i)) 2 2 i rfl rfl rfl h.symm
  | goto l => cases h

theorem loop_sound {K : Know} {vars : Nat → List Nat} {nt : Nat} {c : Code} {e : Ex} {st' : St} (hok : codeOk c = true) {ro : Option Nat} {fm : Nat} (hro : okR ro B ∨ noRange c = true) {G0 : Gh} {w0 : World} {Q : Exit → Act → World → Prop}
    (hQ : ∀ a' w' G', Rel P B G' nt st' a' w' → Ext G0 w0 G' w' → Q (exitOf e) a' w') (n : Nat) (hall : ∀ m, m < n → CodeSound P K.lo (exec P K m)) (st : St) (G : Gh) (a : Act) (w : World) (h : exec P K n vars nt (.loop c) st = some (e, st')) (hgl : G0.lo ≤ K.lo) (hR : Rel P B G nt st a w) (hE : Ext G0 w0 G w) :
    (Code.loop c).wpIn (fw ro) fm P Q a w := by
  intro b k cs hb1 hb hr
  have key : ∀ m, m ≤ n → ∀ st G a w, exec P K m vars nt (.loop c) st = some (e, st') → Rel P B G nt st a w → Ext G0 w0 G w →
      ∃ e' a' w', Q e' a' w' ∧ ArrivesIn (Machine.fenced P (fw ro)) P (lone (b.atR a (.code c :: .inLoop c :: k)) cs w) b k cs e' a' w' := by
    intro m
    induction m with
    | zero => intro _ st G a w h1; cases h1
    | succ m ih =>
      intro hmn st1 G1 a1 w1 h1 hR1 hE1
      have hs := hall m (by omega)
      change execK P (m + 1) K vars nt (.loop c) st1 = some (e, st') at h1
      rw [exec_succ] at h1
      simp only [execWith] at h1
      have body : ∀ Q1 : Exit → Act → World → Prop, c.wpIn (fw ro) fm P Q1 a1 w1 → ∃ e' a' w', Q1 e' a' w' ∧ ArrivesIn (Machine.fenced P (fw ro)) P (lone (b.atR a1 (.code c :: .inLoop c :: k)) cs w1) b (.inLoop c :: k) cs e' a' w' := fun Q1 h => h b (.inLoop c :: k) cs hb1 hb hr
      split at h1
      · rename_i st2 hst2
        obtain ⟨e2, a2, w2, hq, harr⟩ := body (Exit.then (fun a' w' => ∃ G2, Rel P B G2 nt st2 a' w' ∧ Ext G0 w0 G2 w') Q) (hs vars nt c st1 .normal st2 hst2 hok ro fm B hro G1 a1 w1 (by rw [hE1.lo]; exact hgl) hR1 _ fun a2 w2 G2 hR2 hE2 => ⟨G2, hR2, hE1.trans hE2⟩)
        cases e2 with
        | normal =>
          obtain ⟨G2, hR2, hE2⟩ := hq
          obtain ⟨e3, a3, w3, hq3, harr3⟩ := ih (by omega) st2 G2 a2 w2 h1 hR2 hE2
          exact ⟨e3, a3, w3, hq3, .of_steps (StepsIn.trans harr (.one (fenced_calm hb hr rfl) stepR_inLoop)) harr3⟩
        | exit id => exact ⟨_, a2, w2, hq, .pass (x := .inLoop c) rfl (fun _ _ => .inl (by simp)) harr⟩
        | goto l => exact ⟨_, a2, w2, hq, .pass (x := .inLoop c) rfl (fun _ _ => .inl (by simp)) harr⟩
        | ret => exact ⟨_, a2, w2, hq, .pass (x := .inLoop c) rfl (fun _ _ => .inl (by simp)) harr⟩
        | panic ch => exact ⟨_, a2, w2, hq, .pass (x := .inLoop c) rfl (fun _ _ => .inl (by simp)) harr⟩
        | outgrown => exact ⟨_, a2, w2, hq, .pass (x := .inLoop c) rfl (fun _ _ => .inl (by simp)) harr⟩
      · rename_i r hne
        obtain ⟨e2, a2, w2, hq, harr⟩ := body (Exit.then (fun _ _ => False) Q) (hs vars nt c st1 e st' h1 hok ro fm B hro G1 a1 w1 (by rw [hE1.lo]; exact hgl) hR1 _ fun a2 w2 G2 hR2 hE2 => by
          cases e with
          | normal => exact absurd h1 (hne st')
          | exit id' => exact hQ a2 w2 G2 hR2 (hE1.trans hE2)
          | goto l => exact hQ a2 w2 G2 hR2 (hE1.trans hE2)
          | ret => exact hQ a2 w2 G2 hR2 (hE1.trans hE2))
        cases e2 with
        | normal => exact hq.elim
        | exit id => exact ⟨_, a2, w2, hq, .pass (x := .inLoop c) rfl (fun _ _ => .inl (by simp)) harr⟩
        | goto l => exact ⟨_, a2, w2, hq, .pass (x := .inLoop c) rfl (fun _ _ => .inl (by simp)) harr⟩
        | ret => exact ⟨_, a2, w2, hq, .pass (x := .inLoop c) rfl (fun _ _ => .inl (by simp)) harr⟩
        | panic ch => exact ⟨_, a2, w2, hq, .pass (x := .inLoop c) rfl (fun _ _ => .inl (by simp)) harr⟩
        | outgrown => exact ⟨_, a2, w2, hq, .pass (x := .inLoop c) rfl (fun _ _ => .inl (by simp)) harr⟩
  obtain ⟨e', a', w', hq, harr⟩ := key n (Nat.le_refl _) st G a w h hR hE
  exact ⟨e', a', w', hq, .of_steps (.one (fenced_calm hb hr rfl) stepR_loop) harr⟩

theorem stepR_scope {w : World} {b : Frame} {a : Act} {k : List Item} {cs : List Frame} {c : Code} : step P (lone (b.atR a (.code (.scope c) :: k)) cs w) = .next (lone (b.atR a (.code c :: .inScope c :: k)) cs w) :=
  step_lone_go (by simp [stepG, stepG.exec, Frame.atR])
theorem stepR_inScope {w : World} {b : Frame} {a : Act} {k : List Item} {cs : List Frame} {c : Code} : step P (lone (b.atR a (.inScope c :: k)) cs w) = .next (lone (b.atR a k) cs w) :=
  step_lone_go (by simp [stepG, stepG.exec, Frame.atR])
theorem scope_sound {ex : (Nat → List Nat) → Nat → Code → St → Option (Ex × St)} {vars : Nat → List Nat} {nt : Nat} {c : Code} {e : Ex} {st' : St} (hok : codeOk c = true) {ro : Option Nat} {fm : Nat} (hro : okR ro B ∨ noRange c = true) {G0 : Gh} {w0 : World} {Q : Exit → Act → World → Prop}
    (hQ : ∀ a' w' G', Rel P B G' nt st' a' w' → Ext G0 w0 G' w' → Q (exitOf e) a' w') {lo : Nat} (hs : CodeSound P lo ex) (hgl : G0.lo ≤ lo) (n : Nat) (d : Code) (h0 : codeOk (.scope c) = true → codeOk d = true) (h1 : okR ro B ∨ noRange d = true) (st : St) (G : Gh) (a : Act) (w : World) (h : scopeL (ex vars nt) c n d st = some (e, st')) (hR : Rel P B G nt st a w) (hE : Ext G0 w0 G w) (hcd : c = d) :
    (Code.scope c).wpIn (fw ro) fm P Q a w := by
  intro b k cs hb1 hb hr
  have key : ∀ m d st G a w, codeOk d = true → (okR ro B ∨ noRange d = true) → scopeL (ex vars nt) c m d st = some (e, st') → Rel P B G nt st a w → Ext G0 w0 G w →
      ∃ e' a' w', Q e' a' w' ∧ ArrivesIn (Machine.fenced P (fw ro)) P (lone (b.atR a (.code d :: .inScope c :: k)) cs w) b k cs e' a' w' := by
    intro m
    induction m with
    | zero => intro d st G a w _ _ h1; cases h1
    | succ m ih =>
      intro d st1 G1 a1 w1 hd hrd h1 hR1 hE1
      unfold scopeL at h1
      have body : ∀ Q1 : Exit → Act → World → Prop, d.wpIn (fw ro) fm P Q1 a1 w1 → ∃ e' a' w', Q1 e' a' w' ∧ ArrivesIn (Machine.fenced P (fw ro)) P (lone (b.atR a1 (.code d :: .inScope c :: k)) cs w1) b (.inScope c :: k) cs e' a' w' := fun Q1 h => h b (.inScope c :: k) cs hb1 hb hr
      split at h1
      · rename_i l st2 hst2
        obtain ⟨e2, a2, w2, hq, harr⟩ := body (fun e' a' w' => e' = .goto l ∧ ∃ G2, Rel P B G2 nt st2 a' w' ∧ Ext G0 w0 G2 w') (hs vars nt d st1 (.goto l) st2 hst2 hd ro fm B hrd G1 a1 w1 (by rw [hE1.lo]; exact hgl) hR1 _ fun a2 w2 G2 hR2 hE2 => ⟨rfl, G2, hR2, hE1.trans hE2⟩)
        obtain ⟨rfl, G2, hR2, hE2⟩ := hq
        split at h1
        · rename_i rest hrest
          have hg : gotoIn l (.inScope c :: k) = some (.code rest :: .inScope c :: k) := by simp [gotoIn, hrest]
          obtain ⟨e3, a3, w3, hq3, harr3⟩ := ih rest st2 G2 a2 w2 (codeOk_label c l rest hrest hok) (hro.imp (fun h => h) fun h => noRange_label c l rest hrest h) h1 hR2 hE2
          exact ⟨e3, a3, w3, hq3, .of_steps (harr.1 _ hg) harr3⟩
        · rename_i hnone
          injection h1 with h1; injection h1 with h2 h3
          subst h2; subst h3
          have hg : gotoIn l (.inScope c :: k) = gotoIn l k := by simp [gotoIn, hnone]
          exact ⟨.goto l, a2, w2, hQ _ _ _ hR2 hE2, ⟨fun k' hk => harr.1 k' (by rw [hg]; exact hk), fun hr hk => harr.2 hr (by rw [hg]; exact hk)⟩⟩
      · rename_i r hne
        have hq2 : d.wpIn (fw ro) fm P (fun e' a' w' => (∀ l, e' ≠ .goto l) ∧ Q e' a' w') a1 w1 := by
          refine hs vars nt d st1 e st' h1 hd ro fm B hrd G1 a1 w1 (by rw [hE1.lo]; exact hgl) hR1 _ fun a2 w2 G2 hR2 hE2 => ⟨fun l he => ?_, hQ a2 w2 G2 hR2 (hE1.trans hE2)⟩
          cases e with
          | goto l' => exact hne l' st' h1
          | normal => cases he
          | exit i => cases he
          | ret => cases he
        obtain ⟨e2, a2, w2, ⟨hng, hq⟩, harr⟩ := body _ hq2
        cases e2 with
        | normal => exact ⟨.normal, a2, w2, hq, StepsIn.trans harr (.one (fenced_calm hb hr rfl) stepR_inScope)⟩
        | exit id => exact ⟨_, a2, w2, hq, ⟨fun k' hk => harr.1 k' (by simp [exitTo, hk]), fun hr hk => harr.2 hr (by simp [exitTo, hk])⟩⟩
        | goto l => exact absurd rfl (hng l)
        | ret => exact ⟨_, a2, w2, hq, harr⟩
        | panic ch => exact ⟨_, a2, w2, hq, harr⟩
        | outgrown => exact ⟨_, a2, w2, hq, harr⟩
  obtain ⟨e', a', w', hq, harr⟩ := key n d st G a w (h0 (by simpa only [codeOk] using hok)) h1 h hR hE
  subst hcd
  exact ⟨e', a', w', hq, .of_steps (.one (fenced_calm hb hr rfl) stepR_scope) harr⟩

/-! ### loops over maps -/
theorem lastRange_some : ∀ {l pre : List Oper} {o : Oper}, lastRange l = some (pre, o) → l = pre ++ [o]
  | [], _, _, h => by cases h
  | [q], pre, o, h => by
    unfold lastRange at h
    split at h
    · injection h with h; injection h with h1 h2; subst h1; subst h2; rfl
    · cases h
  | q :: q' :: r, pre, o, h => by
    unfold lastRange at h
    split at h
    · rename_i l p hl
      injection h with h; injection h with h1 h2; subst h1; subst h2
      rw [lastRange_some hl]; rfl
    · cases h
theorem mbody_some {c : Code} {b : MBody} (h : mbodyOf c = some b) : c = .block b.out (.loop b.back) := by
  unfold mbodyOf at h
  split at h
  · rename_i out id1 o1 c out' nb id2 o2 code
    cases hb : Nat.beq out' out with
    | false => rw [hb] at h; cases h
    | true =>
      rw [hb] at h
      injection h with h
      obtain rfl := Nat.eq_of_beq_eq_true hb
      subst h
      rfl
  · cases h
theorem mtail_some {y : Code} {b : MBody} {r : Option Code} (h : mtailOf y = some (b, r)) : (y = .block b.out (.loop b.back) ∧ r = none) ∨ ∃ q, y = .seq (.block b.out (.loop b.back)) q ∧ r = some q := by
  unfold mtailOf at h
  split at h
  · rename_i i c
    cases hb : mbodyOf (.block i c) with
    | none => rw [hb] at h; cases h
    | some b' =>
      rw [hb] at h
      injection h with h; injection h with h1 h2; subst h1; subst h2
      exact .inl ⟨mbody_some hb, rfl⟩
  · rename_i c q
    cases hb : mbodyOf c with
    | none => rw [hb] at h; cases h
    | some b' =>
      rw [hb] at h
      injection h with h; injection h with h1 h2; subst h1; subst h2
      exact .inr ⟨q, by rw [← mbody_some hb], rfl⟩
  · cases h
theorem mloop_shape {x y : Code} {L : MLoop} (h : mloopOf x y = some L) : x = .region L.id0 L.o0 false ∧ L.o0.toList = L.pre ++ [L.last] ∧ L.last.op = .range L.t L.x ∧ L.last.dst = some L.it ∧ L.last.guard = none ∧
    ((y = .block L.body.out (.loop L.body.back) ∧ L.rest = none) ∨ ∃ r, y = .seq (.block L.body.out (.loop L.body.back)) r ∧ L.rest = some r) := by
  unfold mloopOf at h
  split at h
  case h_2 => cases h
  rename_i id0 o0
  split at h
  case h_2 => cases h
  rename_i pre o ho
  split at h
  case h_2 => cases h
  rename_i t xx d b r h1 h2 h3 h4
  injection h with h
  subst h
  exact ⟨rfl, lastRange_some ho, h1, h2, h3, mtail_some h4⟩
theorem wpIn_value {ro : Option Nat} {n : Nat} {o : Oper} {a : Act} {w w' : World} {K : Act → World → Prop} {Q : Exit → Act → World → Prop} {v : Value} (hd : ∀ c, o.op ≠ .defer c) (hrun : (execOp a.eval o).run P w = .ok (.value v) w') (hK : K (a.put o.dst v) w') : o.wpIn (fw ro) n P a w K Q :=
  wpIn_of_wp hd (by unfold Oper.wp; rw [hrun]; exact hK)
theorem put_same {nt : Nat} {G : Gh} {w : World} {st st' : St} {a : Act} {x : AV} {v : Value} {d : Nat} (hR : Rel P B G nt st a w) (hp : Res.put ⟨x, st.H, st.own, false⟩ nt st.env (some d) = some st') (rx : Rep P (G.mem w) x v) : Rel P B G nt st' (a.put (some d) v) w :=
  (put_sound hR hp d (fun q e => by injection e with e; exact e.symm) (fun e => by cases e) (done_same hR.ok hR.heap hR.own d rx)).1
/-- A region that begins with a step of the iterator, or reads where it stands. -/
theorem headZ_sound {call : CallA} {yl : Nat → List AV → List (Option Blk) → List Loc → Option Out} {nt : Nat} {ops : Array Oper} {ro : Option Nat} {m : Nat} (hN : NoNum P) (hcall : CallSound P call) (hyl : YieldSound P call.lo yl) (hd : okR ro B ∨ (ops.toList.all fun o => !(isDefer o)) = true)
    {isN : Bool} {it id r : Nat} {x : AV} {st st' : St} (h : headZ call yl P nt isN it id ops.toList x st = some st') {G : Gh} {a : Act} {w w2 : World} {v : Value} (hgl : G.lo ≤ call.lo) (hR : Rel P B G nt st a w) (hf : G.f id = some r)
    (hrun : cond isN (∀ ty, (Instr.next (.pointer (some ⟨r, 0, none⟩)) false ty).run P w = .ok v w2) ((Instr.entry (.pointer (some ⟨r, 0, none⟩))).run P w = .ok v w2)) (hR2 : Rel P B G nt st a w2) (rx : Rep P (G.mem w2) x v)
    (Q : Exit → Act → World → Prop) (hQ : ∀ a' w' G', Rel P B G' nt st' a' w' → Ext G w2 G' w' → Q Exit.normal a' w') : wpListIn (fw ro) m P ops Q ops.toList a w := by
  unfold headZ at h
  split at h
  case h_2 => cases h
  rename_i i o rest hit hops
  cases hb : Nat.beq i id with
  | false => rw [hb] at h; cases h
  | true =>
  rw [hb, cond_true] at h
  obtain rfl := Nat.eq_of_beq_eq_true hb
  have hsl : a.eval (.tmp it) = .pointer (some ⟨r, 0, none⟩) := by
    have r1 := hR.env it
    rw [hit] at r1
    show a.tmps.getD it undef = _
    generalize a.tmps.getD it undef = u at r1
    cases r1 with
    | ptr _ _ b hf' =>
      have e : some b = some r := hf'.symm.trans hf
      injection e with e
      subst e
      rfl
  have hd' : okR ro B ∨ (rest.all fun o => !(isDefer o)) = true := hd.imp (fun h => h) fun h => by rw [hops, List.all_cons, Bool.and_eq_true] at h; exact h.2
  have key : ∀ d s1, o.dst = some d → o.guard = none → (∀ c, o.op ≠ .defer c) → (execOp a.eval o).run P w = .ok (.value v) w2 → Res.put ⟨x, st.H, st.own, false⟩ nt st.env (some d) = some s1 → runOpsZ call yl P nt (o :: rest) rest s1 = some st' → wpListIn (fw ro) m P ops Q (o :: rest) a w := by
    intro d s1 h1 h2 h3 h4 h5 h6
    refine wpListIn_plain h2 fun K hK => ?_
    refine wpIn_value h3 h4 (hK _ _ ?_)
    rw [h1]
    refine list_sound hN hcall hyl rest hd' s1 st' G _ w2 (by rw [hops]; exact h6) hgl (put_same hR2 h5 rx) Q hQ
  rw [hops]
  split at h
  · rename_i s d h1 h2 h3
    cases hc : (isN && Nat.beq s it) with
    | false => rw [hc] at h; cases h
    | true =>
      rw [hc, cond_true] at h
      rw [Bool.and_eq_true] at hc
      obtain rfl := Nat.eq_of_beq_eq_true hc.2
      rw [hc.1] at hrun
      split at h
      case h_2 => cases h
      rename_i s1 hs1
      refine key d s1 h2 h3 (fun c e => by rw [h1] at e; cases e) ?_ hs1 (by rw [hops] at h; exact h)
      have hr := hrun o.type
      obtain ⟨dst, op, ty, pos, after, guard⟩ := o
      simp only at h1
      subst h1
      simp only [execOp, hsl, Sem.run_bind, hr, Result.andThen_ok, Sem.run_pure]
  · rename_i s d h1 h2 h3
    cases hc : (!isN && Nat.beq s it) with
    | false => rw [hc] at h; cases h
    | true =>
      rw [hc, cond_true] at h
      rw [Bool.and_eq_true] at hc
      obtain rfl := Nat.eq_of_beq_eq_true hc.2
      have hn : isN = false := by cases isN with | false => rfl | true => cases hc.1
      rw [hn] at hrun
      split at h
      case h_2 => cases h
      rename_i s1 hs1
      refine key d s1 h2 h3 (fun c e => by rw [h1] at e; cases e) ?_ hs1 (by rw [hops] at h; exact h)
      have hr : (Instr.entry (.pointer (some ⟨r, 0, none⟩))).run P w = .ok v w2 := hrun
      obtain ⟨dst, op, ty, pos, after, guard⟩ := o
      simp only at h1
      subst h1
      simp only [execOp, hsl, Sem.run_bind, hr, Result.andThen_ok, Sem.run_pure]
  · cases h

/-- What is to be shown of a loop whose body is about to run. -/
def LoopIn (P : Program) (ro : Option Nat) (fm : Nat) (c : Code) (Q : Exit → Act → World → Prop) (a : Act) (w : World) : Prop :=
  ∀ (b : Frame) (k : List Item) (cs : List Frame), b.roundOf = (fw ro).round → (fw ro).fn b.fn → (fw ro).room (cs.length + 1 + fm) →
    ∃ e' a' w', Q e' a' w' ∧ ArrivesIn (Machine.fenced P (fw ro)) P (lone (b.atR a (.code c :: .inLoop c :: k)) cs w) b k cs e' a' w'
theorem loopIn_start {ro : Option Nat} {fm : Nat} {c : Code} {Q : Exit → Act → World → Prop} {a : Act} {w : World} (h : LoopIn P ro fm c Q a w) : (Code.loop c).wpIn (fw ro) fm P Q a w := by
  intro b k cs hb1 hb hr
  obtain ⟨e', a', w', hq, harr⟩ := h b k cs hb1 hb hr
  exact ⟨e', a', w', hq, .of_steps (.one (fenced_calm hb hr rfl) stepR_loop) harr⟩
theorem loopIn_round {ro : Option Nat} {fm : Nat} {c : Code} {Q : Exit → Act → World → Prop} {a : Act} {w : World} (h : c.wpIn (fw ro) fm P (Exit.then (LoopIn P ro fm c Q) Q) a w) : LoopIn P ro fm c Q a w := by
  intro b k cs hb1 hb hr
  obtain ⟨e2, a2, w2, hq, harr⟩ := h b (.inLoop c :: k) cs hb1 hb hr
  cases e2 with
  | normal =>
    obtain ⟨e3, a3, w3, hq3, harr3⟩ := hq b k cs hb1 hb hr
    exact ⟨e3, a3, w3, hq3, .of_steps (StepsIn.trans harr (.one (fenced_calm hb hr rfl) stepR_inLoop)) harr3⟩
  | exit id => exact ⟨_, a2, w2, hq, .pass (x := .inLoop c) rfl (fun _ _ => .inl (by simp)) harr⟩
  | goto l => exact ⟨_, a2, w2, hq, .pass (x := .inLoop c) rfl (fun _ _ => .inl (by simp)) harr⟩
  | ret => exact ⟨_, a2, w2, hq, .pass (x := .inLoop c) rfl (fun _ _ => .inl (by simp)) harr⟩
  | panic ch => exact ⟨_, a2, w2, hq, .pass (x := .inLoop c) rfl (fun _ _ => .inl (by simp)) harr⟩
  | outgrown => exact ⟨_, a2, w2, hq, .pass (x := .inLoop c) rfl (fun _ _ => .inl (by simp)) harr⟩

section
variable {call : CallA} {yl : Nat → List AV → List (Option Blk) → List Loc → Option Out} {ex : (Nat → List Nat) → Nat → Code → St → Option (Ex × St)} {vars : Nat → List Nat} {nt : Nat} {ro : Option Nat} {fm : Nat} {b : MBody} {it id r : Nat} {mo : Option (Nat × List (AV × AV))} {on : Option (AV × AV)}
theorem mround_end (hN : NoNum P) (hcall : CallSound P call) (hyl : YieldSound P call.lo yl) (hro : okR ro B ∨ noRange b.back = true) {st s3 : St} (h3 : headZ call yl P nt true it id b.o1.toList (.tup [.bool false]) st = some s3) (hc : evalO (keepD (vars b.id1) s3).env b.c = some (.bool false)) {G : Gh} {a : Act} {w : World} (hgl : G.lo ≤ call.lo) (hR : Rel P B G nt st a w) (hI : ItAt P G w id r mo [] on)
    {Q : Exit → Act → World → Prop} (hQ : ∀ a' w' G', Rel P B G' nt (keepD (vars b.id1) s3) a' w' → Ext G w G' w' → Q (.exit b.out) a' w') : b.back.wpIn (fw ro) fm P Q a w := by
  have rx : Rep P (G.mem w) (.tup [.bool false]) (.tuple #[.bool false]) := by
    refine .tup _ _ rfl fun i hi => ?_
    match i, hi with
    | 0, _ => exact .bool false
  refine wpIn_seq (wpIn_region_list (headZ_sound hN hcall hyl (hro.imp (fun h => h) fun h => ?_) h3 hgl hR hI.1 (v := .tuple #[.bool false]) (w2 := w) (fun ty => it_next_none hI ty) hR rx _ fun a1 w1 G1 hR1 hE1 => ?_))
  · simp only [MBody.back, noRange, Bool.and_eq_true] at h; exact h.1
  · have hR1' := keep_rel (vars b.id1) hR1
    refine wpIn_seq (wpIn_cond (bool_inv (hR1'.env.opd hc)) ?_)
    exact wpIn_exit (hQ a1 w1 G1 hR1' hE1)
theorem mround_one (hN : NoNum P) (hcall : CallSound P call) (hyl : YieldSound P call.lo yl) (hex : CodeSound P call.lo ex) (hok : codeOk b.back = true) (hro : okR ro B ∨ noRange b.back = true) {p : AV × AV} {st st' : St} (h : roundM call yl P vars nt (ex vars nt) b it id p st = some st') {G G0 : Gh} {a : Act} {w w0 : World} (hgl0 : G0.lo ≤ call.lo) (hR : Rel P B G nt st a w) (hI : ItAt P G w id r mo [p] on) (hE : Ext G0 w0 G w) (hr0 : w0.heap.size ≤ r) (hgl : glN ≤ r)
    {Q : Exit → Act → World → Prop} (hQ : ∀ a' w' G', Rel P B G' nt st' a' w' → ItAt P G' w' id r mo [] (some p) → Ext G0 w0 G' w' → Q .normal a' w') : b.back.wpIn (fw ro) fm P Q a w := by
  unfold roundM at h
  split at h
  case h_2 => cases h
  rename_i s1 h1
  split at h
  case h_2 => cases h
  rename_i hc
  split at h
  case h_2 => cases h
  rename_i s2 h2
  obtain ⟨v, w1, hrun, rx, hR1, hI1, hE1⟩ := it_next_one hR hI hgl
  have hE1 := hE1 G0 w0 hE hr0
  simp only [MBody.back, codeOk, Bool.and_eq_true] at hok
  refine wpIn_seq (wpIn_region_list (headZ_sound hN hcall hyl (hro.imp (fun h => h) fun h => ?_) h1 (by rw [hE.lo]; exact hgl0) hR hI.1 (v := v) (w2 := w1) hrun hR1 rx _ fun a2 w2 G2 hR2 hE2 => ?_))
  · simp only [MBody.back, noRange, Bool.and_eq_true] at h; exact h.1
  have hR2 := keep_rel (vars b.id1) hR2
  have hI2 := hI1.ext hE2
  have hE2 := hE1.trans hE2
  refine wpIn_seq (wpIn_cond (bool_inv (hR2.env.opd hc)) ?_)
  refine wpIn_skip ?_
  show (Code.block b.nb (.seq (.region b.id2 b.o2 false) b.code)).wpIn (fw ro) fm P Q a2 w2
  obtain ⟨v2, hent, rx2⟩ := it_entry hI2
  refine wpIn_block (wpIn_seq (wpIn_region_list (headZ_sound hN hcall hyl (hro.imp (fun h => h) fun h => ?_) h2 (by rw [hE2.lo]; exact hgl0) hR2 hI2.1 (v := v2) (w2 := w2) hent hR2 rx2 _ fun a3 w3 G3 hR3 hE3 => ?_)))
  · simp only [MBody.back, noRange, Bool.and_eq_true] at h; exact h.2.2.1
  have hR3 := keep_rel (vars b.id2) hR3
  have hI3 := hI2.ext hE3
  have hE3 := hE2.trans hE3
  have hro' : okR ro B ∨ noRange b.code = true := hro.imp (fun h => h) fun h => by simp only [MBody.back, noRange, Bool.and_eq_true] at h; exact h.2.2.2
  show b.code.wpIn (fw ro) fm P (Exit.inBlock b.nb Q) a3 w3
  split at h
  · rename_i s3 h3
    injection h with h; subst h
    refine hex vars nt b.code _ .normal s3 h3 hok.2.2.2 ro fm B hro' G3 a3 w3 (by rw [hE3.lo]; exact hgl0) hR3 _ fun a4 w4 G4 hR4 hE4 => ?_
    exact hQ a4 w4 G4 hR4 (hI3.ext hE4) (hE3.trans hE4)
  · rename_i i s3 h3
    cases hb : Nat.beq i b.nb with
    | false => rw [hb] at h; cases h
    | true =>
      rw [hb] at h
      injection h with h; subst h
      obtain rfl := Nat.eq_of_beq_eq_true hb
      refine hex vars nt b.code _ (.exit b.nb) s3 h3 hok.2.2.2 ro fm B hro' G3 a3 w3 (by rw [hE3.lo]; exact hgl0) hR3 _ fun a4 w4 G4 hR4 hE4 => ?_
      show Exit.inBlock b.nb Q (.exit b.nb) a4 w4
      simp only [Exit.inBlock, if_true]
      exact hQ a4 w4 G4 hR4 (hI3.ext hE4) (hE3.trans hE4)
  · cases h
theorem mloop_sound (hN : NoNum P) (hcall : CallSound P call) (hyl : YieldSound P call.lo yl) (hex : CodeSound P call.lo ex) {x y : Code} {L : MLoop} (hL : mloopOf x y = some L) (hok : codeOk (.seq x y) = true) (hro : okR ro B ∨ noRange (.seq x y) = true) {st st' : St} (h : mloopA call yl P vars nt (ex vars nt) L st = some st') {G : Gh} {a : Act} {w : World} (hgl : G.lo ≤ call.lo) (hR : Rel P B G nt st a w)
    {Q : Exit → Act → World → Prop} (hQ : ∀ a' w' G', Rel P B G' nt st' a' w' → Ext G w G' w' → match L.rest with
      | none => Q .normal a' w'
      | some q => q.wpIn (fw ro) fm P Q a' w') : (Code.seq x y).wpIn (fw ro) fm P Q a w := by
  obtain ⟨hx0, hsplit, hop, hdst, hguard, hy⟩ := mloop_shape hL
  unfold mloopA at h
  split at h
  case h_2 => cases h
  rename_i s0 h0
  cases hm : isMapT P L.t with
  | false => rw [hm] at h0; cases h0
  | true =>
  rw [hm, cond_true] at h0
  split at h
  case h_2 => cases h
  rename_i mo l hmo
  obtain ⟨xv, hx1, hx⟩ : ∃ xv, evalO s0.env L.x = some xv ∧ entriesM call.lo s0.H xv = some (mo, l) := by
    cases hx : evalO s0.env L.x with
    | none => rw [hx] at hmo; cases hmo
    | some xv => rw [hx] at hmo; exact ⟨xv, rfl, hmo⟩
  split at h
  case h_2 => cases h
  rename_i s1 h1
  split at h
  case h_2 => cases h
  rename_i s2 h2
  split at h
  case h_2 => cases h
  rename_i s3 h3
  split at h
  case h_2 => cases h
  rename_i hc
  injection h with h
  have hyn : okR ro B ∨ noRange L.body.back = true := hro.imp (fun h => h) fun h => by
    rcases hy with ⟨rfl, _⟩ | ⟨q, rfl, _⟩
    · simp only [noRange, Bool.and_eq_true] at h; exact h.2
    · simp only [noRange, Bool.and_eq_true] at h; exact h.2.1
  have hyk : codeOk L.body.back = true := by
    rcases hy with ⟨rfl, _⟩ | ⟨q, rfl, _⟩
    · simp only [codeOk, Bool.and_eq_true] at hok; exact hok.2
    · simp only [codeOk, Bool.and_eq_true] at hok; exact hok.2.1
  have hd0 : okR ro B ∨ (L.pre.all fun o => !(isDefer o)) = true := hro.imp (fun h => h) fun h => by
    rw [hx0] at h
    simp only [noRange, Bool.and_eq_true] at h
    have := h.1
    rw [hsplit, List.all_append, Bool.and_eq_true] at this
    exact this.1
  rw [hx0]
  refine wpIn_seq (wpIn_region_list ?_)
  rw [hsplit]
  refine list_tail hN hcall hyl [L.last] L.pre hd0 st s0 G a w h0 hgl hR _ fun a0 w0 G0 hR0 hE0 => ?_
  refine wpListIn_plain hguard fun K hK => ?_
  obtain ⟨G1, w1, hrun, hR1, hE1, hI1, hft⟩ := it_enter hR0 hx (by rw [hE0.lo]; exact hgl) hm (hR0.env.opd hx1)
  have hex1 : (execOp a0.eval L.last).run P w0 = .ok (.value (.pointer (some ⟨w0.heap.size, 0, none⟩))) w1 := by
    generalize L.last = o at hop
    obtain ⟨dst, op, ty, pos, after, guard⟩ := o
    simp only at hop
    subst hop
    simp only [execOp, Sem.run_bind, hrun, Result.andThen_ok, Sem.run_pure]
  refine wpIn_value (fun c e => by rw [hop] at e; cases e) hex1 (hK _ _ ?_)
  rw [hdst]
  unfold enterM at h1
  cases hp : Res.put ⟨.ptr s0.H.length 0, fzM mo s0.H ++ [some anyBlk], s0.own, false⟩ nt s0.env (some L.it) with
  | none => rw [hp] at h1; cases h1
  | some sp =>
  rw [hp] at h1
  injection h1 with h1
  have hRp := put_same (st := ⟨s0.env, fzM mo s0.H ++ [some anyBlk], s0.own⟩) hR1 hp (.ptr _ 0 _ hI1.1)
  have hRp := keep_rel (vars L.id0) hRp
  rw [h1] at hRp
  revert hRp
  generalize (a0.put (some L.it) (.pointer (some ⟨w0.heap.size, 0, none⟩))) = a1
  intro hRp
  have hgr := held_le hR0.ok.held
  have hgl0 : G0.lo ≤ call.lo := by rw [hE0.lo]; exact hgl
  have key : ∀ Q' : Exit → Act → World → Prop, (∀ a' w' G', Rel P B G' nt st' a' w' → Ext G w G' w' → Q' .normal a' w') → (Code.block L.body.out (.loop L.body.back)).wpIn (fw ro) fm P Q' a1 w1 := by
    intro Q' hQ'
    refine wpIn_block (loopIn_start ?_)
    have fin : ∀ G' a' w', Rel P B G' nt s2 a' w' → (∃ on, ItAt P G' w' s0.H.length w0.heap.size mo [] on) → Ext G0 w0 G' w' → LoopIn P ro fm L.body.back (Exit.inBlock L.body.out Q') a' w' := by
      rintro G' a' w' hR' ⟨on, hI'⟩ hE'
      refine loopIn_round (mround_end (vars := vars) hN hcall hyl hyn h3 hc (by rw [hE'.lo]; exact hgl0) hR' hI' fun a5 w5 G5 hR5 hE5 => ?_)
      obtain ⟨G6, hR6, hE6⟩ := it_leave hR5 (hI'.ext hE5) (hE'.trans hE5) hR0.ok.held hft
      rw [h] at hR6
      show Exit.inBlock L.body.out Q' (.exit L.body.out) a5 w5
      simp only [Exit.inBlock, if_true]
      exact hQ' a5 w5 G6 hR6 (hE0.trans hE6)
    cases l with
    | nil =>
      simp only [roundsM, Option.some.injEq] at h2
      subst h2
      exact fin G1 a1 w1 hRp ⟨_, hI1⟩ hE1
    | cons p l =>
      cases l with
      | cons _ _ => cases h2
      | nil =>
        refine loopIn_round (mround_one hN hcall hyl hex hyk hyn h2 hgl0 hRp hI1 hE1 (Nat.le_refl _) hgr fun a4 w4 G4 hR4 hI4 hE4 => ?_)
        exact fin G4 a4 w4 hR4 ⟨_, hI4⟩ hE4
  show y.wpIn (fw ro) fm P Q a1 w1
  rcases hy with ⟨rfl, hr⟩ | ⟨q, rfl, hr⟩
  · rw [hr] at hQ
    exact key Q hQ
  · rw [hr] at hQ
    exact wpIn_seq (key _ hQ)
end

/-- A loop over a function is entered: its record is laid. -/
theorem rel_enter {nt : Nat} {G : Gh} {w : World} {st : St} {a : Act} (hB : B ≠ .bare) (hR : Rel P B G nt st a w) (fn0 : FuncId) (vars : Nat → List Nat) (ps : Array Tmp) (assign body : Code) (hc : (codeOk assign && noRange assign && (codeOk body && noRange body)) = true) :
    ∃ G1, G1.f st.H.length = some (w.heap.size + 1) ∧
      Rel P B G1 nt ⟨st.env, st.H ++ [recA 0 0 0 (.rcd vars nt st.env ps.toList assign body)], st.own⟩ { a with defers := [mark w.heap.size] ++ a.defers }
        ((w.alloc (.deferred (some []))).alloc (.loop { state := .ready, pending := none, fn := fn0, tmps := a.tmps, params := ps, assign, body, defers := w.heap.size })) ∧
      Ext G w G1 ((w.alloc (.deferred (some []))).alloc (.loop { state := .ready, pending := none, fn := fn0, tmps := a.tmps, params := ps, assign, body, defers := w.heap.size })) := by
  generalize hL : ({ state := .ready, pending := none, fn := fn0, tmps := a.tmps, params := ps, assign, body, defers := w.heap.size } : Loop) = L
  have g := hR.ok
  have hid : G.f st.H.length = none := by
    cases hf : G.f st.H.length with
    | none => rfl
    | some b => have := (hR.heap.dom _ _ hf).lt; omega
  have hbel : Below w.heap.size w ((w.alloc (.deferred (some []))).alloc (.loop L)) := ((Below.refl _ _).alloc (Nat.le_refl _) _).alloc (by rw [World.size_alloc]; omega) _
  have hs1 : (w.alloc (.deferred (some []))).heap.size = w.heap.size + 1 := World.size_alloc _ _
  have hs2 : ((w.alloc (.deferred (some []))).alloc (.loop L)).heap.size = w.heap.size + 2 := by rw [World.size_alloc, hs1]
  have hl : ((w.alloc (.deferred (some []))).alloc (.loop L)).heap[w.heap.size + 1]? = some (.loop L) := by
    have := World.alloc_heap_new (w.alloc (.deferred (some []))) (.loop L)
    rw [hs1] at this; exact this
  have hd : ((w.alloc (.deferred (some []))).alloc (.loop L)).heap[w.heap.size]? = some (.deferred (some [])) := by
    show ((w.heap.push (.deferred (some []))).push (.loop L))[w.heap.size]? = _
    rw [Array.getElem?_push_lt (by simp)]
    simp
  have hgf : ∀ i b, (G.map st.H.length (w.heap.size + 1) 0).f i = some b → (i = st.H.length ∧ b = w.heap.size + 1) ∨ (i ≠ st.H.length ∧ G.f i = some b) := by
    intro i b h
    change upd G.f st.H.length (some (w.heap.size + 1)) i = some b at h
    by_cases hi : i = st.H.length
    · subst hi; rw [upd_same] at h; injection h with h; exact .inl ⟨rfl, h.symm⟩
    · rw [upd_ne _ _ hi] at h; exact .inr ⟨hi, h⟩
  have gr : Grow G w (G.map st.H.length (w.heap.size + 1) 0) ((w.alloc (.deferred (some []))).alloc (.loop L)) := by
    refine ⟨hbel, fun _ _ => rfl, fun _ _ => rfl, fun b hb => upd_ne _ _ (by omega), fun i b h => ?_, fun i b h => ?_, rfl⟩
    · show upd G.f st.H.length _ i = _
      rw [upd_ne _ _ (by rintro rfl; rw [hid] at h; cases h)]; exact h
    · rcases hgf i b h with ⟨rfl, rfl⟩ | ⟨_, h⟩
      · exact .inr ⟨hid, by omega⟩
      · exact .inl h
  have hext := gr.ext g
  have hgok : GOk (G.map st.H.length (w.heap.size + 1) 0) ((w.alloc (.deferred (some []))).alloc (.loop L)) := by
    refine ⟨fun i b h => ?_, fun b hb => ?_, hext.held g.held⟩
    · rcases hgf i b h with ⟨rfl, rfl⟩ | ⟨_, h⟩
      · exact ⟨by rw [hs2]; omega, (g.new _ (by omega)).2.1⟩
      · obtain ⟨h1, h2⟩ := g.fin i b h
        exact ⟨by rw [hs2]; omega, h2⟩
    · rw [hs2] at hb
      obtain ⟨h1, h2, h3⟩ := g.new b (by omega)
      exact ⟨h1, h2, by show upd _ _ _ b = 0; rw [upd_ne _ _ (by omega)]; exact h3⟩
  have hH : ∀ i q, (st.H ++ [recA 0 0 0 (.rcd vars nt st.env ps.toList assign body)])[i]? = some (some q) → (i = st.H.length ∧ some q = recA 0 0 0 (.rcd vars nt st.env ps.toList assign body)) ∨ (i < st.H.length ∧ st.H[i]? = some (some q)) := by
    intro i q hi
    by_cases h1 : i < st.H.length
    · rw [List.getElem?_append_left h1] at hi; exact .inr ⟨h1, hi⟩
    · have h3 : i = st.H.length := by
        have := (List.getElem?_eq_some_iff.1 hi).1
        rw [List.length_append] at this
        simp only [List.length_cons, List.length_nil] at this
        omega
      subst h3
      rw [List.getElem?_append_right (Nat.le_refl _), Nat.sub_self] at hi
      injection hi with hi
      exact .inl ⟨rfl, hi.symm⟩
  refine ⟨G.map st.H.length (w.heap.size + 1) 0, upd_same _ _ _, ⟨hgok, ⟨fun i b h => ?_, fun i b q h hq => ?_, fun i j b q1 q2 h1 h2 hq1 hq2 n1 n2 => ?_, fun i b q h hq hn => ?_⟩, ⟨fun s hs => (hR.own.slot s hs).grow gr, fun i off b q cs hm h hq hb => ?_, fun i off hm => ((hR.own.dom i off hm).append _).mono hext.f⟩, fun s => hext.rep (hR.env s), hR.size, ?_⟩, hext⟩
  · rcases hgf i b h with ⟨rfl, rfl⟩ | ⟨_, h⟩
    · unfold recA
      refine ⟨_, by rw [List.getElem?_append_right (Nat.le_refl _), Nat.sub_self]; rfl⟩
    · exact (hR.heap.dom i b h).append _
  · rcases hgf i b h with ⟨rfl, rfl⟩ | ⟨hne, h⟩
    · rcases hH _ q hq with ⟨_, e⟩ | ⟨hlt, _⟩
      · have hqe : Nat.beq q.e LOOP = true := by unfold recA at e; injection e with e; rw [e]; exact Nat.beq_refl _
        refine ⟨fun e' => (by rw [hqe] at e'; cases e'), fun _ => .inl ⟨L, 0, 0, 0, vars, st.env, hl, ?_, ?_, ?_, ?_, fun s => ?_⟩⟩
        · rw [e, ← hL]; show _ = recA 0 0 0 (.rcd vars a.tmps.size st.env ps.toList assign body); rw [hR.size]
        · rw [← hL]; rfl
        · rw [← hL]; rfl
        · rw [← hL]; exact hc
        · have ht : L.tmps = a.tmps := by rw [← hL]
          rw [ht]; exact hext.rep (hR.env s)
      · exact absurd hlt (Nat.lt_irrefl _)
    · rcases hH i q hq with ⟨e, _⟩ | ⟨_, hq⟩
      · exact absurd e hne
      · exact (hR.heap.blk i b q h hq).grow gr g (g.fin i b h).1
  · rcases hgf i b h1 with ⟨a1, a2⟩ | ⟨a1, h1⟩ <;> rcases hgf j b h2 with ⟨b1, b2⟩ | ⟨b1, h2⟩
    · rw [a1, b1]
    · have := (g.fin j b h2).1; omega
    · have := (g.fin i b h1).1; omega
    · rcases hH i q1 hq1 with ⟨e, _⟩ | ⟨_, hq1⟩
      · exact absurd e a1
      · rcases hH j q2 hq2 with ⟨e, _⟩ | ⟨_, hq2⟩
        · exact absurd e b1
        · exact hR.heap.inj i j b q1 q2 h1 h2 hq1 hq2 n1 n2
  · rcases hgf i b h with ⟨_, rfl⟩ | ⟨hne, h⟩
    · exact fun _ => (g.new _ (by omega)).1
    · rcases hH i q hq with ⟨e, _⟩ | ⟨_, hq⟩
      · exact absurd e hne
      · exact hR.heap.lim i b q h hq hn
  · rcases hgf i b h with ⟨rfl, rfl⟩ | ⟨hne, h⟩
    · have := (hR.own.dom _ off hm).lt; omega
    · rcases hH i q hq with ⟨e, _⟩ | ⟨_, hq⟩
      · exact absurd e hne
      · rw [hbel.block b (g.fin i b h).1] at hb
        exact (hR.own.cell i off b q cs hm h hq hb).grow gr
  · have hd0 := hR.defers
    cases B with
    | round => trivial
    | bare => exact absurd rfl hB
    | frame B =>
      obtain ⟨hn, h0, rs, l, h1, h2, h4, h3⟩ := hd0
      refine ⟨hn, Nat.le_trans h0 hext.size, w.heap.size :: rs, l, h1, .mark _ (h2.mono hext.mem), List.nodup_cons.2 ⟨fun hm => ?_, h4⟩, fun r hr => ?_⟩
      · have := (Array.getElem?_eq_some_iff.1 (h3 _ hm).2.1).1
        omega
      · rcases List.mem_cons.1 hr with rfl | hr
        · refine ⟨h0, hd, ?_⟩
          have hnf : ¬ ∃ i, (G.map st.H.length (w.heap.size + 1) 0).f i = some w.heap.size := by
            rintro ⟨i, hi⟩
            rcases hgf i _ hi with ⟨_, e⟩ | ⟨_, hi⟩
            · omega
            · have := (g.fin i _ hi).1; omega
          refine ⟨?_, hnf⟩
          rintro (⟨⟨i, _, h⟩, _⟩ | ho)
          · exact hnf ⟨i, h⟩
          · have := (g.new w.heap.size (Nat.le_refl _)).2.1
            have ho : (G.owner w.heap.size).isSome = true := ho
            rw [this] at ho; cases ho
        · obtain ⟨a1, a2, a3⟩ := h3 r hr
          obtain ⟨b1, _, b3⟩ := hext.foreign r (Array.getElem?_eq_some_iff.1 a2).1 a3.1
          exact ⟨a1, b1.trans a2, a3.off b3⟩

theorem range_sound (hP : POk P) {call : CallA} (hcall : CallSound P call) (hB : B ≠ .bare) {vars : Nat → List Nat} {nt : Nat} {gq : Operand} {ps : Array Tmp} {assign body : Code} {st st' : St} {e : Ex} (h : rangeA call P vars nt gq ps assign body st = some (e, st'))
    (hc : (codeOk assign && noRange assign && (codeOk body && noRange body)) = true) {m : Nat} {G : Gh} {a : Act} {w : World} (hgl : G.lo ≤ call.lo) (hlh : Nat.ble call.lo st.H.length = true) (hR : Rel P B G nt st a w) {Q : Exit → Act → World → Prop} (hQ : ∀ a' w' G', Rel P B G' nt st' a' w' → Ext G w G' w' → Q (exitOf e) a' w') :
    (Code.rangeFunc gq ps assign body).wpIn (fw none) m P Q a w := by
  unfold rangeA at h
  split at h
  case h_2 => cases h
  rename_i f cap hf
  have rf := hR.env.opd hf
  generalize hfv : a.eval gq = fv at rf
  cases rf with
  | fn _ _ caps hcl hcr =>
  split at h
  case h_2 => cases h
  rename_i r hr
  unfold callA at hr
  cases hb : hasBody P f with
  | false => rw [hb] at hr; cases hr
  | true =>
  rw [hb] at hr
  simp only [cond_true] at hr
  split at hr
  case h_2 => cases hr
  rename_i x H' own' hcl'
  injection hr with hr
  subst hr
  simp only at h
  split at h
  case h_2 => cases h
  rename_i s k xx y hrec
  cases hs : Nat.beq s 1 with
  | true => rw [hs] at h; cases h
  | false =>
  rw [hs] at h
  simp only [cond_false] at h
  refine wpIn_rangeFunc fun fn0 _ => ?_
  obtain ⟨G1, hf1, hR1, hE1⟩ := rel_enter hB hR fn0 vars ps assign body hc
  have hent : (Instr.enterLoop fn0 a.tmps ps assign body none).run P w = .ok (w.heap.size + 1, [mark w.heap.size]) ((w.alloc (.deferred (some []))).alloc (.loop { state := .ready, pending := none, fn := fn0, tmps := a.tmps, params := ps, assign, body, defers := w.heap.size })) := run_enterLoop_outer _ _ _ _ _
  revert hR1 hE1 hent
  generalize ((w.alloc (.deferred (some []))).alloc (.loop { state := .ready, pending := none, fn := fn0, tmps := a.tmps, params := ps, assign, body, defers := w.heap.size })) = w1
  intro hR1 hE1 hent
  have hargs : ArgsRep P (G1.mem w1) (.yld st.H.length :: cap) (#[.func (.yield (w.heap.size + 1)) #[] #[]] ++ caps) := by
    refine args_append (xs := [.yld st.H.length]) ⟨rfl, fun i hi => ?_⟩ ⟨hcl, fun i hi => hE1.rep (hcr i hi)⟩
    have : i = 0 := by simpa using hi
    subst this
    exact .yld _ _ hf1
  have hcs := hcall f _ _ _ _ hcl' G1.callee _ _ (show G1.lo ≤ call.lo by rw [hE1.lo]; exact hgl) (callee_gok hR1.ok) ⟨hR1.heap.dom, hR1.heap.blk, hR1.heap.inj, hR1.heap.lim⟩
    ⟨fun id off b k cs hm hf hk hb => callee_own (hR1.own.cell id off b k cs (List.mem_filter.1 (mem_canon.1 hm)).1 hf hk hb), fun id off hm => hR1.own.dom id off (List.mem_filter.1 (mem_canon.1 hm)).1⟩ hargs
  have hres : (resolve a.eval (rangeCall gq (w.heap.size + 1)) 0).run P w1 = .ok { target := .fn (.func f) caps, args := #[.func (.yield (w.heap.size + 1)) #[] #[]] } w1 := by
    have e : Array.map a.eval (rangeCall gq (w.heap.size + 1)).args = #[.func (.yield (w.heap.size + 1)) #[] #[]] := by
      apply Array.ext'
      rw [Array.toList_map]
      rfl
    simp only [resolve, hfv, Deferred.ofValue, Sem.run_bind, Sem.run_pure, Result.andThen_ok, e, Array.empty_append]
  have hinv : (invoke (.fn (.func f) caps) #[.func (.yield (w.heap.size + 1)) #[] #[]]).run P w1 = .ok (.enter f (#[.func (.yield (w.heap.size + 1)) #[] #[]] ++ caps)) w1 := by
    simp only [invoke]
    exact run_callFunc hP.num hb _
  have key : CallsIn (fw none) (m - 1) P f (#[.func (.yield (w.heap.size + 1)) #[] #[]] ++ caps) w1 (rangePost (fw none) m P (w.heap.size + 1) Q { a with defers := [mark w.heap.size] ++ a.defers }) := by
    refine calls_fw (hcs.mono ?_)
    rintro e' w3 ⟨v, G', rfl, hdone⟩
    obtain ⟨d, hd⟩ := fresh_slot (st.own.filter (fun l => !l.isCell) ++ own'.filter Loc.isCell)
    have hdn := back_done hR1.ok hR1.heap hR1.own hdone d
    obtain ⟨hR3, hE3⟩ := put_sound (dst := none) hR1 (st' := ⟨st.env, H', st.own.filter (fun l => !l.isCell) ++ own'.filter Loc.isCell⟩) rfl d (fun q e => by cases e) (fun _ => hd) hdn
    have hf3 : (G1.back G').f st.H.length = some (w.heap.size + 1) := hE3.f _ _ hf1
    obtain ⟨L3, hL3, hst3, hpend3, _, hstep3⟩ := loop_step hR3.ok hR3.heap hf3 (by rw [hE3.lo, hE1.lo]; exact Nat.le_trans hgl (Nat.ble_eq.mp hlh)) hrec
    have hbusy : L3.state ≠ .busy := by
      rw [hst3]
      match s, hs with
      | 0, _ => intro e; cases e
      | 2, _ => intro e; cases e
      | s + 3, _ => intro e; cases e
    refine ⟨_, _, run_endLoop hL3 hbusy, ?_⟩
    obtain ⟨e4, g4, r4, o4, o5⟩ := hstep3 3 k xx
    have hw4 : ({ L3 with state := LoopState.exhausted } : Loop) = { L3 with state := stateOf 3, pending := pendOf k xx } := by rw [← hpend3]; rfl
    rw [hw4]
    have c5 := o5 _ hR3.cells
    have hR4 : Rel P B (G1.back G') nt ⟨st.env, H'.set st.H.length (recA 3 k xx y), st.own.filter (fun l => !l.isCell) ++ own'.filter Loc.isCell⟩ { a with defers := [mark w.heap.size] ++ a.defers } (w3.putObj (w.heap.size + 1) (.loop { L3 with state := stateOf 3, pending := pendOf k xx })) :=
      ⟨g4, r4, ⟨fun s hs => o4 _ _ _ (hR3.own.slot s hs), fun i off b q cs hm hi hk hb => c5.cell i off b q cs (List.mem_filter.2 ⟨hm, rfl⟩) hi hk hb, fun i off hm => c5.dom i off (List.mem_filter.2 ⟨hm, rfl⟩)⟩, fun s => e4.rep (hR3.env s), hR3.size, hR3.defers.ext e4⟩
    have hE4 : Ext G w (G1.back G') (w3.putObj (w.heap.size + 1) (.loop { L3 with state := stateOf 3, pending := pendOf k xx })) := (hE1.trans hE3).trans e4
    rw [hpend3]
    match k, h, hR4, hE4 with
    | 0, h, hR4, hE4 =>
      injection h with h; injection h with h1 h2; subst h1; subst h2
      exact hQ _ _ _ hR4 hE4
    | 1, h, hR4, hE4 =>
      injection h with h; injection h with h1 h2; subst h1; subst h2
      exact wpIn_ret (hQ _ _ _ hR4 hE4)
    | k + 2, h, hR4, hE4 =>
      injection h with h; injection h with h1 h2; subst h1; subst h2
      exact wpIn_exit (hQ _ _ _ hR4 hE4)
  exact ⟨w.heap.size + 1, [mark w.heap.size], w1, { target := .fn (.func f) caps, args := #[.func (.yield (w.heap.size + 1)) #[] #[]] }, w1, f, _, w1, hent, hres, fun _ _ => trivial, hinv, (fun e => by cases e), key⟩

theorem chk_sound {call : CallA} (h : CallSound P call) : CallSound P (chk call) := by
  intro f args H own out hc
  change cond (Nat.ble call.lo H.length) (call f args H own) none = some out at hc
  cases hb : Nat.ble call.lo H.length with
  | false => rw [hb] at hc; cases hc
  | true => rw [hb] at hc; exact h f args H own out hc
theorem chk_len {call : CallA} (h : CallLock call) : CallLen (chk call) := by
  intro f args H own x H' own' hc
  change cond (Nat.ble call.lo H.length) (call f args H own) none = some (x, H', own') at hc
  cases hb : Nat.ble call.lo H.length with
  | false => rw [hb] at hc; cases hc
  | true => rw [hb] at hc; exact (h f args H own x H' own' hc (Nat.ble_eq.mp hb)).1
theorem code_step {K : Know} (hP : POk P) (n : Nat) (hcall : CallSound P (cN P K n)) (hdn : CallSound P (dN P K n)) (hloc : FullLock (dN P K n) ∧ CallFill (dN P K n) ∧ CallOwn (dN P K n)) (hlk : CallLock (cN P K n)) (hall : ∀ m, m < n + 1 → CodeSound P K.lo (exec P K m)) : CodeSound P K.lo (exec P K (n + 1)) := by
  have hex := hall n (Nat.lt_succ_self n)
  intro vars nt c st e st' h hok ro fm B hro G a w hgl hR Q hQ
  have hfull := h
  change execK P (n + 1) K vars nt c st = some (e, st') at h
  rw [exec_succ] at h
  cases c with
  | skip => simp only [execWith, Option.some.injEq, Prod.mk.injEq] at h; obtain ⟨rfl, rfl⟩ := h; exact wpIn_skip (hQ a w G hR (Ext.refl _ _))
  | region id ops draw =>
    simp only [execWith] at h
    split at h
    · rename_i st1 hst1
      injection h with h; injection h with h1 h2; subst h1; subst h2
      have hQ' : ∀ a' w' G', Rel P B G' nt st1 a' w' → Ext G w G' w' → Q Exit.normal a' w' := fun a' w' G' h1 h2 => hQ a' w' G' (keep_rel (vars id) h1) h2
      cases draw with
      | false => exact wpIn_region_list (list_sound hP.num hcall (yield_sound hex) ops.toList (hro.imp (fun h => h) fun h => h) st st1 G a w hst1 hgl hR Q hQ')
      | true =>
        simp only [codeOk, Bool.not_true, Bool.false_or] at hok
        simp only [cond_true] at hst1
        split at hst1
        case h_2 => cases hst1
        rename_i lt hlt
        refine hP.draw (selC (cN P K n) (dN P K n) ops.toList) (fun o => ?_) K.lo (fun o => sel_lo o) ro fm B nt id ops st st1 G a w hok (fun hm => ⟨fun o ho => ?_, fun o => ?_⟩) lt (lateW_some hlt) hst1 hgl hR Q hQ'
        · unfold selC
          cases mixed ops.toList with
          | false => exact hcall
          | true => cases mixAt ops.toList o with
            | true => exact hdn
            | false => exact chk_sound hcall
        · unfold selC
          rw [hm, ho]; exact hloc
        · unfold selC
          rw [hm]
          cases mixAt ops.toList o with
          | true => exact fun f args H own x H' own' hc => (hloc.1 f args H own x H' own' hc).1
          | false => exact chk_len hlk
    · cases h
  | seq x y =>
    simp only [execWith] at h
    split at h
    · rename_i L hL
      split at h
      case h_2 => cases h
      rename_i st1 h1
      refine mloop_sound hP.num hcall (yield_sound hex) hex hL hok hro h1 hgl hR fun a1 w1 G1 hR1 hE1 => ?_
      obtain ⟨_, _, _, _, _, hy⟩ := mloop_shape hL
      rcases hy with ⟨_, hr⟩ | ⟨q, hy, hr⟩
      · rw [hr] at h ⊢
        injection h with h; injection h with h1 h2; subst h1; subst h2
        exact hQ a1 w1 G1 hR1 hE1
      · rw [hr] at h ⊢
        subst hy
        simp only [codeOk, Bool.and_eq_true] at hok
        exact hex vars nt q st1 e st' h hok.2.2 ro fm B (hro.imp (fun h => h) fun h => by simp only [noRange, Bool.and_eq_true] at h; exact h.2.2) G1 a1 w1 (by rw [hE1.lo]; exact hgl) hR1 Q fun a2 w2 G2 h2 e2 => hQ a2 w2 G2 h2 (hE1.trans e2)
    simp only [codeOk, Bool.and_eq_true] at hok
    split at h
    · rename_i st1 hst1
      refine wpIn_seq (hex vars nt x st .normal st1 hst1 hok.1 ro fm B (hro.imp (fun h => h) fun h => (Bool.and_eq_true _ _ ▸ (show (noRange x && noRange y) = true from h)).1) G a w hgl hR _ ?_)
      intro a1 w1 G1 hR1 hE1
      exact hex vars nt y st1 e st' h hok.2 ro fm B (hro.imp (fun h => h) fun h => (Bool.and_eq_true _ _ ▸ (show (noRange x && noRange y) = true from h)).2) G1 a1 w1 (by rw [hE1.lo]; exact hgl) hR1 Q fun a2 w2 G2 h2 e2 => hQ a2 w2 G2 h2 (hE1.trans e2)
    · rename_i r hne
      refine wpIn_seq (hex vars nt x st e st' h hok.1 ro fm B (hro.imp (fun h => h) fun h => (Bool.and_eq_true _ _ ▸ (show (noRange x && noRange y) = true from h)).1) G a w hgl hR _ ?_)
      intro a1 w1 G1 hR1 hE1
      cases e with
      | normal => exact absurd h (hne st')
      | exit id => exact hQ a1 w1 G1 hR1 hE1
      | goto l => exact hQ a1 w1 G1 hR1 hE1
      | ret => exact hQ a1 w1 G1 hR1 hE1
  | cond c x y =>
    simp only [execWith] at h
    simp only [codeOk, Bool.and_eq_true] at hok
    split at h
    · rename_i t ht
      have := bool_inv (hR.env.opd ht)
      refine wpIn_cond this ?_
      cases t with
      | true => exact hex vars nt x st e st' h hok.1 ro fm B (hro.imp (fun h => h) fun h => (Bool.and_eq_true _ _ ▸ (show (noRange x && noRange y) = true from h)).1) G a w hgl hR Q hQ
      | false => exact hex vars nt y st e st' h hok.2 ro fm B (hro.imp (fun h => h) fun h => (Bool.and_eq_true _ _ ▸ (show (noRange x && noRange y) = true from h)).2) G a w hgl hR Q hQ
    · cases h
  | block id c =>
    simp only [execWith] at h
    simp only [codeOk] at hok
    split at h
    · rename_i i st1 hst1
      refine wpIn_block (hex vars nt c st (.exit i) st1 hst1 hok ro fm B (hro.imp (fun h => h) fun h => h) G a w hgl hR _ ?_)
      intro a1 w1 G1 hR1 hE1
      cases hi : Nat.beq i id with
      | true =>
        rw [hi] at h; simp only [cond_true, Option.some.injEq, Prod.mk.injEq] at h
        obtain ⟨rfl, rfl⟩ := h
        have := Nat.eq_of_beq_eq_true hi
        show Exit.inBlock id Q (.exit i) a1 w1
        simp only [Exit.inBlock, this, if_true]
        exact hQ a1 w1 G1 hR1 hE1
      | false =>
        rw [hi] at h; simp only [cond_false, Option.some.injEq, Prod.mk.injEq] at h
        obtain ⟨rfl, rfl⟩ := h
        show Exit.inBlock id Q (.exit i) a1 w1
        have hne : i ≠ id := by rintro rfl; rw [Nat.beq_refl] at hi; cases hi
        simp only [Exit.inBlock, hne, if_false]
        exact hQ a1 w1 G1 hR1 hE1
    · rename_i r hne
      refine wpIn_block (hex vars nt c st e st' h hok ro fm B (hro.imp (fun h => h) fun h => h) G a w hgl hR _ ?_)
      intro a1 w1 G1 hR1 hE1
      cases e with
      | normal => exact hQ a1 w1 G1 hR1 hE1
      | exit id' => exact absurd h (hne id' st')
      | goto l => exact hQ a1 w1 G1 hR1 hE1
      | ret => exact hQ a1 w1 G1 hR1 hE1
  | loop c => exact loop_sound (c := c) (by simpa only [codeOk] using hok) (hro.imp (fun h => h) fun h => h) hQ (n + 1) hall st G a w hfull hgl hR (Ext.refl _ _)
  | exit id => simp only [execWith, Option.some.injEq, Prod.mk.injEq] at h; obtain ⟨rfl, rfl⟩ := h; exact wpIn_exit (hQ a w G hR (Ext.refl _ _))
  | label l => simp only [execWith, Option.some.injEq, Prod.mk.injEq] at h; obtain ⟨rfl, rfl⟩ := h; exact wpIn_label (hQ a w G hR (Ext.refl _ _))
  | ret => simp only [execWith, Option.some.injEq, Prod.mk.injEq] at h; obtain ⟨rfl, rfl⟩ := h; exact wpIn_ret (hQ a w G hR (Ext.refl _ _))
  | rangeFunc gq ps assign body =>
    simp only [execWith] at h
    cases hc : (noRange assign && noRange body && Nat.ble K.lo st.H.length) with
    | false => rw [hc] at h; cases h
    | true =>
      rw [hc] at h
      simp only [cond_true] at h
      rcases hro with ⟨rfl, hB⟩ | hro
      · simp only [codeOk, Bool.and_eq_true] at hok hc
        exact range_sound hP hcall hB h (by simp only [Bool.and_eq_true]; exact ⟨⟨hok.1, hc.1.1⟩, hok.2, hc.1.2⟩) hgl hc.2 hR hQ
      · cases hro
  | scope c =>
    simp only [execWith] at h
    refine scope_sound (c := c) (by simpa only [codeOk] using hok) (hro.imp (fun h => h) fun h => h) hQ hex hgl 100000 c (fun _ => by simpa only [codeOk] using hok) (hro.imp (fun h => h) fun h => h) st G a w h hR (Ext.refl _ _) rfl
  | goto l => simp only [execWith, Option.some.injEq, Prod.mk.injEq] at h; obtain ⟨rfl, rfl⟩ := h; exact wpIn_goto (hQ a w G hR (Ext.refl _ _))
  | refuse s => cases h

theorem look_zip : ∀ (args : List AV) (k s : Nat), look (zipArgs k args) s = if k ≤ s then args.getD (s - k) .undef else .undef := by
  intro args
  induction args with
  | nil => intro k s; simp [zipArgs, look]
  | cons x r ih =>
    intro k s
    simp only [zipArgs]
    rw [look_cons, ih]
    by_cases h : s = k
    · subst h; rw [if_pos rfl, if_pos (Nat.le_refl _), Nat.sub_self]; rfl
    · rw [if_neg h]
      by_cases hk : k ≤ s
      · rw [if_pos (by omega), if_pos hk]
        have : s - k = (s - (k + 1)) + 1 := by omega
        rw [this, List.getD_cons_succ]
      · rw [if_neg (by omega), if_neg hk]

def resSem (tmps : Array Value) : ResultVar → Sem Value
  | .tmp t => pure (tmps.getD t undef)
  | .cell a t => do loadVar t (← asAddr (tmps.getD a undef))
theorem result_sound {G : Gh} {nt : Nat} {st : St} {a : Act} {w : World} (hR : Rel P B G nt st a w) {r : ResultVar} {x : AV} (h : resultA P st r = some x) :
    ∃ v, (resSem a.tmps r).run P w = .ok v w ∧ Rep P (G.mem w) x v := by
  cases r with
  | tmp t => simp only [resultA, Option.some.injEq] at h; subst h; exact ⟨_, rfl, hR.env t⟩
  | cell ad t =>
    simp only [resultA] at h
    split at h
    · rename_i id off hl
      have r1 := hR.env ad
      rw [hl] at r1
      obtain ⟨u, hu, ru, _⟩ := load_sound h r1 (fun id off b k _ hf hk => hR.heap.blk id b k hf hk)
      generalize hv : a.tmps.getD ad undef = v at r1 hu
      cases r1 with
      | ptr _ _ b hf =>
        refine ⟨u, ?_, ru⟩
        simp only [resSem, hv, asAddr, Sem.run_bind, Sem.run_pure, Result.andThen_ok]
        simpa only [Instr.loadAt, Instr.sureAddr, Sem.run_bind, Sem.run_pure, Result.andThen_ok] using hu
    · cases h

theorem results_sound {G : Gh} {nt : Nat} {st : St} {a : Act} {w : World} (hR : Rel P B G nt st a w) {fn : Func} {x : AV} (h : resultsA P st fn.results.toList = some x) : ∃ v, (results fn a.tmps).run P w = .ok v w ∧ Rep P (G.mem w) x v := by
  have key : ∀ (rs : List ResultVar) (xs : List AV), rs.mapM (resultA P st) = some xs → ∃ vs : List Value, (rs.mapM (resSem a.tmps)).run P w = .ok vs w ∧ vs.length = xs.length ∧ ∀ i, i < xs.length → Rep P (G.mem w) (xs.getD i .undef) (vs.getD i undef) := by
    intro rs
    induction rs with
    | nil => intro xs h; simp at h; subst h; exact ⟨[], rfl, rfl, fun i hi => by simp at hi⟩
    | cons r rs ih =>
      intro xs h
      rw [List.mapM_cons] at h
      cases hr : resultA P st r with
      | none => simp [hr] at h
      | some y =>
        cases hrs : rs.mapM (resultA P st) with
        | none => simp [hr, hrs] at h
        | some ys =>
          simp [hr, hrs] at h; subst h
          obtain ⟨v, hv, rv⟩ := result_sound hR hr
          obtain ⟨vs, h1, h2, h3⟩ := ih ys hrs
          refine ⟨v :: vs, ?_, by simp [h2], ?_⟩
          · simp only [List.mapM_cons, Sem.run_bind, hv, Result.andThen_ok, h1, Sem.run_pure]
          · intro i hi
            cases i with
            | zero => exact rv
            | succ i =>
              simp only [List.length_cons] at hi
              have := h3 i (by omega)
              simpa [List.getD_eq_getElem?_getD] using this
  have hrun : ∀ vs : List Value, (fn.results.toList.mapM (resSem a.tmps)).run P w = .ok vs w → (results fn a.tmps).run P w = .ok (if h : vs.toArray.size = 1 then vs.toArray[0] else .tuple vs.toArray) w := by
    intro vs hvs
    have hres : results fn a.tmps = (do let vs ← fn.results.mapM (resSem a.tmps); pure (if h : vs.size = 1 then vs[0] else .tuple vs)) := rfl
    rw [hres, Array.mapM_eq_mapM_toList]
    simp only [Sem.run_bind, Sem.run_map, hvs, Result.andThen_ok, Sem.run_pure]
  unfold resultsA at h
  split at h
  · rename_i rs r heq
    have hm : fn.results.toList.mapM (resultA P st) = some [x] := by rw [heq]; simp [h]
    obtain ⟨vs, h1, h2, h3⟩ := key _ _ hm
    simp only [List.length_cons, List.length_nil] at h2
    have hr := hrun vs h1
    obtain ⟨v, rfl⟩ : ∃ v, vs = [v] := by
      cases vs with
      | nil => cases h2
      | cons v r => cases r with
        | nil => exact ⟨v, rfl⟩
        | cons _ _ => simp at h2
    exact ⟨v, hr, h3 0 (by simp)⟩
  · rename_i rs hne
    cases hm : fn.results.toList.mapM (resultA P st) with
    | none => rw [hm] at h; cases h
    | some xs =>
      rw [hm] at h; simp only [Option.map_some, Option.some.injEq] at h; subst h
      obtain ⟨vs, h1, h2, h3⟩ := key _ _ hm
      have hr := hrun vs h1
      have hl : vs.length ≠ 1 := by
        intro e
        rw [e] at h2
        have : ∀ (rs : List ResultVar) (xs : List AV), rs.mapM (resultA P st) = some xs → rs.length = xs.length := by
          intro rs
          induction rs with
          | nil => intro xs h; simp at h; subst h; rfl
          | cons r rs ih =>
            intro xs h
            rw [List.mapM_cons] at h
            cases hr : resultA P st r with
            | none => simp [hr] at h
            | some y =>
              cases hrs : rs.mapM (resultA P st) with
              | none => simp [hr, hrs] at h
              | some ys => simp [hr, hrs] at h; subst h; simp [ih ys hrs]
        have hlen := this _ _ hm
        rw [← h2] at hlen
        obtain ⟨q, hq⟩ := List.length_eq_one_iff.1 hlen
        exact hne q hq
      have hs : ¬ (vs.toArray.size = 1) := by simpa using hl
      rw [dif_neg hs] at hr
      refine ⟨_, hr, .tup _ _ (by simpa using h2) ?_⟩
      intro i hi
      have := h3 i hi
      simpa [List.getD_eq_getElem?_getD, Array.getD_eq_getD_getElem?] using this

/-- What is taken on trust of the calls that go by a law of their own: that it is one. -/
def ShortSound (P : Program) (K : Know) : Prop := ∀ f g, K.short f = some g → ∀ lo, CallSound P ⟨fun f' args H own => if f' = f then g lo args H own else none, lo⟩

/-- A frame leaves: the marks' blocks are shut. -/
theorem shut_rel {nt : Nat} {G G0 : Gh} {w w0 : World} {st : St} {a : Act} {r : Nat} (hR : Rel P .round G nt st a w) (hE : Ext G0 w0 G w) (hK : Held G0 w0)
    (hq0 : w0.heap.size ≤ r) (hq1 : w.heap[r]? = some (.deferred (some []))) (hq2 : Free G r) :
    Rel P .round G nt st a (w.putObj r (.deferred none)) ∧ Ext G0 w0 G (w.putObj r (.deferred none)) ∧ (G.mem w).le (G.mem (w.putObj r (.deferred none))) := by
  have hoth : ∀ q, q ≠ r → (w.putObj r (.deferred none)).heap[q]? = w.heap[q]? := fun q hq => World.putObj_heap_other hq
  have hprot : ∀ b o v, pmOf w G b o = some v → pmOf (w.putObj r (.deferred none)) G b o = some v := by
    intro b o v hv
    have hb : b ≠ r := by
      rintro rfl
      unfold pmOf at hv
      split at hv
      · simp [World.cell?, hq1] at hv
      · cases hv
    unfold pmOf at hv ⊢
    split at hv
    · rename_i hlt'; rw [if_pos hlt', World.cell?_of_block (hoth b hb)]; exact hv
    · cases hv
  have hm : (G.mem w).le (G.mem (w.putObj r (.deferred none))) := ⟨hprot, fun _ _ h => h, fun _ => Nat.le_refl _⟩
  have hfr : ∀ i b, G.f i = some b → b ≠ r := by rintro i b h rfl; exact hq2.2 ⟨i, h⟩
  have hown : ∀ lc z u, OwnAt P G w lc z u → OwnAt P G (w.putObj r (.deferred none)) lc z u := by
    intro lc z u ro e xs hx
    obtain ⟨sz, cells, a1, a2, a3, a4⟩ := ro e xs hx
    refine ⟨sz, cells, a1, a2, a3.kept (grownBy_putObj' w r _) (row := some r) ?_, a4⟩
    cases hu : u.ownBlock with
    | none => exact .inl rfl
    | some q =>
      refine .inr ?_
      intro e
      injection e with e
      subst e
      exact hq2.1 (.inr (by rw [(a4 q hu).1]; rfl))
  have hE' : Ext G0 w0 G (w.putObj r (.deferred none)) := by
    refine ⟨hE.os, hE.tape, hE.output, by rw [World.putObj_size]; exact hE.size, fun b o v h => hprot b o v (hE.prot b o v h), hE.f, hE.bs, fun b hb hn => ?_, hE.lo⟩
    obtain ⟨a1, a2, a3⟩ := hE.foreign b hb hn
    exact ⟨(hoth b (by omega)).trans a1, a2, a3⟩
  exact ⟨⟨⟨fun i b h => by rw [World.putObj_size]; exact hR.ok.fin i b h, fun b hb => hR.ok.new b (by rw [World.putObj_size] at hb; exact hb), hE'.held hK⟩,
    ⟨hR.heap.dom, fun i b k h hk => (hR.heap.blk i b k h hk).to (hoth b (hfr i b h)) rfl hm, hR.heap.inj, hR.heap.lim⟩,
    ⟨fun s hs => hown _ _ _ (hR.own.slot s hs), fun i off b k cs hm hi hk hb => hown _ _ _ (hR.own.cell i off b k cs hm hi hk (by rw [hoth b (hfr i b hi)] at hb; exact hb)), hR.own.dom⟩,
    fun s => (hR.env s).mono hm, hR.size, trivial⟩, hE', hm⟩

theorem rel0 {G : Gh} {w : World} {args : List AV} {vals : Array Value} {H : List (Option Blk)} {own : List Loc} {nt : Nat} {F : Fr} (g : GOk G w) (hH : HeapRel P G H w) (ho : CellOwns P G H own w) (har : ArgsRep P (G.mem w) args vals) (hle : args.length ≤ nt) (hd : MarksOk P F G w nt (look (zipArgs 0 args) DEF) []) :
    Rel P F G nt ⟨zipArgs 0 args, H, own.filter Loc.isCell⟩ { tmps := vals ++ Array.replicate (nt - vals.size) undef, defers := [] } w := by
  refine ⟨g, hH, ⟨?_, ?_, ?_⟩, ?_, ?_, hd⟩
  · intro s hs; have := (List.mem_filter.1 hs).2; cases this
  · intro id off b k cs hm; exact ho.cell id off b k cs (List.mem_filter.1 hm).1
  · intro id off hm; exact ho.dom id off (List.mem_filter.1 hm).1
  · intro s
    show Rep P (G.mem w) (look (zipArgs 0 args) s) _
    rw [look_zip, if_pos (Nat.zero_le _), Nat.sub_zero]
    by_cases hs : s < args.length
    · have := har.2 s hs
      rw [Array.getD_eq_getD_getElem?] at this ⊢
      rw [Array.getElem?_append_left (by rw [har.1]; exact hs)]
      exact this
    · rw [List.getD_eq_getElem?_getD, List.getElem?_eq_none (by omega)]
      exact .undef _
  · simp only [Array.size_append, Array.size_replicate, har.1]; omega

theorem resultsA_own {env : List (Nat × AV)} {H : List (Option Blk)} {own own' : List Loc} {rs : List ResultVar} {x : AV} (h : resultsA P ⟨env, H, own⟩ rs = some x) : resultsA P ⟨env, H, own'⟩ rs = some x := by
  have : resultA P ⟨env, H, own⟩ = resultA P ⟨env, H, own'⟩ := by
    funext r
    cases r <;> rfl
  unfold resultsA at h ⊢
  rw [← this]; exact h
theorem hasBody_of {f : FuncId} {fn : Func} {c : Code} (h1 : P.funcs[f]? = some fn) (h2 : fn.body = some c) : hasBody P f = true := by
  unfold hasBody; rw [h1]; simp [h2]

theorem wps_value {n : Nat} {ops : Array Oper} {Q : Exit → Act → List Frame → World → Prop} {i : Nat} {r : List Nat} {a : Act} {cs : List Frame} {w : World} {o : Oper} {v : Value} {ro : Option Nat} (ho : ops[i]? = some o) (hg : o.guard = none) (hrun : (execOp a.eval o).run P w = .ok (.value v) w)
    (next : wpOpsSIn (fw ro) n P ops Q r (a.put o.dst v) cs w) : wpOpsSIn (fw ro) n P ops Q (i :: r) a cs w := by
  unfold wpOpsSIn
  rw [ho]
  refine ⟨fun _ _ => trivial, ?_⟩
  have hw : Region.wanted o (yielded ops a.tmps) = true := by unfold Region.wanted; rw [hg]
  rw [if_pos hw, hrun]
  exact next
theorem wps_recover {n : Nat} {ops : Array Oper} {Q : Exit → Act → List Frame → World → Prop} {i : Nat} {r : List Nat} {a : Act} {cs : List Frame} {w : World} {o : Oper} {ro : Option Nat} (ho : ops[i]? = some o) (hg : o.guard = none) (hrun : (execOp a.eval o).run P w = .ok .recover w) (hc : recoverD cs = none)
    (next : wpOpsSIn (fw ro) n P ops Q r (a.put o.dst .nilIface) cs w) : wpOpsSIn (fw ro) n P ops Q (i :: r) a cs w := by
  unfold wpOpsSIn
  rw [ho]
  refine ⟨fun _ _ => trivial, ?_⟩
  have hw : Region.wanted o (yielded ops a.tmps) = true := by unfold Region.wanted; rw [hg]
  rw [if_pos hw, hrun]
  simp only [hc]
  exact next
theorem wpSIn_of_wpIn' {n : Nat} {c : Code} {Q : Exit → Act → List Frame → World → Prop} {a : Act} {cs : List Frame} {w : World} (h : c.wpIn (fw none) n P (fun e a' w' => Q e a' cs w') a w) : c.wpSIn (fw none) n P Q a cs w := wpSIn_of_wpIn rfl h
/-- A deferred call that is quiet. -/
theorem quiet_calls {G : Gh} {w : World} {g : FuncId} {caps : Array Value} {u : FrameMode} {m : Nat} (hu : u = .returning) (h : quietF P g = true) :
    hasBody P g = true ∧ CallsDIn (fw none) m P g caps u w fun e u' w' => u' = u ∧ (∃ v, e = .returned v) ∧ w' = w := by
  unfold quietF at h
  split at h
  case h_2 => cases h
  rename_i fn hfn
  split at h
  case h_2 => cases h
  rename_i c hc
  refine ⟨hasBody_of hfn hc, ?_⟩
  rw [Bool.and_eq_true] at h
  obtain ⟨hres, h⟩ := h
  have hres : fn.results = #[] := by
    apply Array.ext'
    cases hr : fn.results.toList with
    | nil => rfl
    | cons _ _ => rw [hr] at hres; cases hres
  unfold quietC at h
  split at h
  case h_2 => cases h
  rename_i c' id0 o0 id1 o1 b x
  split at h
  case h_2 => cases h
  rename_i r args at0 ty0 p0 af0 xx r' ty1 p1 af1 mm x' ty2 p2 af2 b' t m' t' ty3 p3 af3 ho0 ho1
  simp only [Bool.and_eq_true] at h
  obtain ⟨⟨⟨⟨⟨⟨⟨⟨⟨hargs, e1⟩, e2⟩, e3⟩, e4⟩, l1⟩, l2⟩, l3⟩, l4⟩, hbin⟩ := h
  obtain rfl := Nat.eq_of_beq_eq_true e1
  obtain rfl := Nat.eq_of_beq_eq_true e2
  obtain rfl := Nat.eq_of_beq_eq_true e3
  obtain rfl := Nat.eq_of_beq_eq_true e4
  have l1 := Nat.blt_eq.mp l1
  have l2 := Nat.blt_eq.mp l2
  have l3 := Nat.blt_eq.mp l3
  have l4 := Nat.blt_eq.mp l4
  have hargs : args = #[] := by
    apply Array.ext'
    cases hr : args.toList with
    | nil => rfl
    | cons _ _ => rw [hr] at hargs; cases hargs
  subst hargs
  have ho0 : o0 = #[{ dst := some r, op := .call { callee := .builtin .recover, args := #[], argTypes := at0 }, type := ty0, pos := p0, after := af0, guard := none }, { dst := some xx, op := .assign (.tmp r), type := ty1, pos := p1, after := af1, guard := none }] := Array.ext' ho0
  have ho1 : o1 = #[{ dst := some mm, op := .move (.tmp xx), type := ty2, pos := p2, after := af2, guard := none }, { dst := some b, op := .binOp .neq t (.tmp mm) (.const .nilIface) t', type := ty3, pos := p3, after := af3, guard := none }] := Array.ext' ho1
  subst ho0 ho1
  obtain ⟨z, hz, rz⟩ : ∃ z, ((do eqGuard .neq t (.tmp mm) (.const .nilIface) .nilIface .nilIface; Go.binOp .neq t .nilIface .nilIface : Sem Value)).run P w = .ok z w ∧ z = .bool false := by
    split at hbin
    · rename_i q hq
      obtain ⟨z, h1, h2⟩ := binOp_sound (M := G.mem w) (w := w) (yt := t) hq .nili .nili
      cases q with
      | true => cases hbin
      | false => cases h2; exact ⟨_, h1, rfl⟩
    · cases hbin
  subst rz
  refine callsDIn_of_wpSIn hfn hc trivial fun c₀ cs hm => ?_
  generalize htm : caps ++ Array.replicate (fn.ntmps - caps.size) undef = tm
  have hsz : fn.ntmps ≤ tm.size := by rw [← htm, Array.size_append, Array.size_replicate]; omega
  have hrec : recoverD (c₀ :: cs) = none := by
    simp only [recoverD]
    rw [hm, hu]
  have hput : ∀ (a : Act) (d : Nat) (v : Value), d < a.tmps.size → (a.put (some d) v).eval (.tmp d) = v := fun a d v h => by
    have := slots_put (v := v) h d
    rw [if_pos rfl] at this
    exact this
  have hps : ∀ (a : Act) (d : Nat) (v : Value), (a.put (some d) v).tmps.size = a.tmps.size := fun a d v => by simp [Act.put]
  obtain ⟨a0, ha0⟩ : ∃ a0 : Act, a0 = { tmps := tm, defers := [] } := ⟨_, rfl⟩
  obtain ⟨a1, ha1⟩ : ∃ a1 : Act, a1 = a0.put (some r) .nilIface := ⟨_, rfl⟩
  obtain ⟨a2, ha2⟩ : ∃ a2 : Act, a2 = a1.put (some xx) .nilIface := ⟨_, rfl⟩
  obtain ⟨a3, ha3⟩ : ∃ a3 : Act, a3 = a2.put (some mm) .nilIface := ⟨_, rfl⟩
  obtain ⟨a4, ha4⟩ : ∃ a4 : Act, a4 = a3.put (some b) (.bool false) := ⟨_, rfl⟩
  have s0 : fn.ntmps ≤ a0.tmps.size := by rw [ha0]; exact hsz
  have s1 : fn.ntmps ≤ a1.tmps.size := by rw [ha1, hps]; exact s0
  have s2 : fn.ntmps ≤ a2.tmps.size := by rw [ha2, hps]; exact s1
  have s3 : fn.ntmps ≤ a3.tmps.size := by rw [ha3, hps]; exact s2
  have v1 : a1.eval (.tmp r) = .nilIface := by rw [ha1]; exact hput _ _ _ (by omega)
  have v2 : a2.eval (.tmp xx) = .nilIface := by rw [ha2]; exact hput _ _ _ (by omega)
  have v3 : a3.eval (.tmp mm) = .nilIface := by rw [ha3]; exact hput _ _ _ (by omega)
  have v4 : a4.eval (.tmp b) = .bool false := by rw [ha4]; exact hput _ _ _ (by omega)
  have d4 : a4.defers = [] := by rw [ha4, ha3, ha2, ha1, ha0]; rfl
  rw [← ha0]
  refine wpSIn_seq (wpSIn_region ?_)
  show wpOpsSIn _ _ P _ _ [0, 1] _ _ _
  refine wps_recover (o := { dst := some r, op := .call { callee := .builtin .recover, args := #[], argTypes := at0 }, type := ty0, pos := p0, after := af0, guard := none }) rfl rfl (by simp only [execOp, resolve, Sem.run_bind, Sem.run_pure, Result.andThen_ok]; rfl) hrec ?_
  show wpOpsSIn _ _ P _ _ [1] (a0.put (some r) .nilIface) _ _
  rw [← ha1]
  refine wps_value (v := .nilIface) (o := { dst := some xx, op := .assign (.tmp r), type := ty1, pos := p1, after := af1, guard := none }) rfl rfl (by simp only [execOp, v1]; rfl) ?_
  show wpOpsSIn _ _ P _ _ [] (a1.put (some xx) .nilIface) _ _
  rw [← ha2]
  show Code.wpSIn _ _ P _ _ _ _ _
  refine wpSIn_seq (wpSIn_region ?_)
  show wpOpsSIn _ _ P _ _ [0, 1] _ _ _
  refine wps_value (v := .nilIface) (o := { dst := some mm, op := .move (.tmp xx), type := ty2, pos := p2, after := af2, guard := none }) rfl rfl (by simp only [execOp, v2]; rfl) ?_
  show wpOpsSIn _ _ P _ _ [1] (a2.put (some mm) .nilIface) _ _
  rw [← ha3]
  refine wps_value (v := .bool false) (o := { dst := some b, op := .binOp .neq t (.tmp mm) (.const .nilIface) t', type := ty3, pos := p3, after := af3, guard := none }) rfl rfl (by
    simp only [execOp, v3]
    show ((do eqGuard .neq t (.tmp mm) (.const .nilIface) .nilIface .nilIface; Go.binOp .neq t .nilIface .nilIface : Sem Value) >>= fun z => pure (Next.value z)).run P w = _
    rw [Sem.run_bind, hz]
    rfl) ?_
  show wpOpsSIn _ _ P _ _ [] (a3.put (some b) (.bool false)) _ _
  rw [← ha4]
  show Code.wpSIn _ _ P _ _ _ _ _
  refine wpSIn_cond v4 ?_
  show Code.wpSIn _ _ P .skip _ _ _ _
  refine wpSIn_of_wpIn' (wpIn_skip ?_)
  refine ⟨d4, u, by rw [← hm], .tuple #[], ?_, rfl, ⟨_, rfl⟩, rfl⟩
  unfold results
  rw [hres, Array.mapM_eq_mapM_toList]
  simp only [List.mapM_nil, Sem.run_bind, Sem.run_map, Sem.run_pure, Result.andThen_ok]
  rfl

/-- A deferred call that runs. -/
theorem bodyD_calls {ex : (Nat → List Nat) → Nat → Code → St → Option (Ex × St)} {K : Know} (hP : POk P) {lo : Nat} (hex : CodeSound P lo ex) {f : FuncId} {args : List AV} {H : List (Option Blk)} {own : List Loc} {H' : List (Option Blk)} {own' : List Loc} (h : bodyD ex P K f args H own = some (H', own'))
    {G : Gh} {w : World} {vals : Array Value} (hgl : G.lo ≤ lo) (g : GOk G w) (hH : HeapRel P G H w) (ho : CellOwns P G H own w) (har : ArgsRep P (G.mem w) args vals) {u : FrameMode} {m : Nat} :
    hasBody P f = true ∧ (∀ lc ∈ own', lc.isCell = true) ∧ CallsDIn (fw none) m P f vals u w fun e u' w' => u' = u ∧ ∃ x v G', e = .returned v ∧ CallDone P G w (x, H', own') v w' G' := by
  unfold bodyD at h
  split at h
  case h_2 => cases h
  rename_i fn hfn
  split at h
  case h_2 => cases h
  rename_i c hc
  refine ⟨hasBody_of hfn hc, ?_⟩
  split at h
  case isFalse => cases h
  rename_i hle
  obtain ⟨hle, hnr⟩ := hle
  have hok := hP.code f fn c hfn hc
  have hdone : ∀ e st1, ex (K.vars f) fn.ntmps c ⟨zipArgs 0 args, H, own.filter Loc.isCell⟩ = some (e, st1) → (e = .ret ∨ e = .normal) → (resultsA P st1 fn.results.toList).map (fun _ => (st1.H, st1.own.filter Loc.isCell)) = some (H', own') →
      (∀ lc ∈ own', lc.isCell = true) ∧ CallsDIn (fw none) m P f vals u w fun e u' w' => u' = u ∧ ∃ x v G', e = .returned v ∧ CallDone P G w (x, H', own') v w' G' := by
    intro e st1 hst he hres
    cases hx : resultsA P st1 fn.results.toList with
    | none => rw [hx] at hres; cases hres
    | some x =>
      rw [hx] at hres; simp only [Option.map_some, Option.some.injEq, Prod.mk.injEq] at hres
      obtain ⟨rfl, rfl⟩ := hres
      refine ⟨fun lc h => (List.mem_filter.1 h).2, ?_⟩
      refine callsDIn_of_wp (R := fun e w' => ∃ x v G', e = .returned v ∧ CallDone P G w (x, st1.H, st1.own.filter Loc.isCell) v w' G') hfn hc trivial ?_ rfl
      refine hex _ _ _ _ _ _ hst hok none m .bare (.inr hnr) G _ w hgl (rel0 g hH ho har hle rfl) _ ?_
      intro a' w' G' hR' hE
      have hd : a'.defers = [] := hR'.defers
      obtain ⟨v, hv, rv⟩ := results_sound hR' hx
      have fin : a'.defers = [] ∧ ∃ v, (results fn a'.tmps).run P w' = .ok v w' ∧ ∃ x v' G', Ending.returned v = .returned v' ∧ CallDone P G w (x, st1.H, st1.own.filter Loc.isCell) v' w' G' :=
        ⟨hd, v, hv, x, v, G', rfl, hE, hR'.ok, hR'.heap, rv, hR'.cells⟩
      rcases he with rfl | rfl
      · exact fin
      · exact fin
  split at h
  · rename_i st1 hst; exact hdone _ _ hst (.inl rfl) h
  · rename_i st1 hst; exact hdone _ _ hst (.inr rfl) h
  · cases h

theorem leaves_all {ex : (Nat → List Nat) → Nat → Code → St → Option (Ex × St)} {K : Know} (hP : POk P) {lo : Nat} (hex : CodeSound P lo ex) {nt : Nat} {G0 : Gh} {w0 : World} {tmps : Array Value} {fn : Func} {env : List (Nat × AV)} {x : AV} {H' : List (Option Blk)} {own' : List Loc} {m : Nat} (hgl : G0.lo ≤ lo) (hK : Held G0 w0) (hx : resultsA P ⟨env, H', own'⟩ fn.results.toList = some x) :
    ∀ (ds : List Deferred) (rs : List Nat) (l : List (Nat × AV)) (H : List (Option Blk)) (own : List Loc) (G : Gh) (w : World), DefRel P (G.mem w) ds rs l → rs.Nodup → (∀ r ∈ rs, w0.heap.size ≤ r ∧ w.heap[r]? = some (.deferred (some [])) ∧ Free G r) →
      leaveA ex P K l H own = some (H', own') → (∀ lc ∈ own, lc.isCell = true) → Rel P .round G nt ⟨env, H, own⟩ { tmps := tmps, defers := [] } w → Ext G0 w0 G w →
      LeavesInM (fw none) m P fn tmps (fun e w' => ∃ v G', e = .returned v ∧ CallDone P G0 w0 (x, H', own') v w' G') ds .returning w := by
  intro ds
  induction ds with
  | nil =>
    intro rs l H own G w hD hn hm hl hcells hR hE
    cases hD
    simp only [leaveA, Option.some.injEq, Prod.mk.injEq] at hl
    obtain ⟨rfl, rfl⟩ := hl
    obtain ⟨v, hv, rv⟩ := results_sound hR hx
    have hf : own.filter Loc.isCell = own := List.filter_eq_self.2 hcells
    have hc := hR.cells
    simp only [hf] at hc
    exact ⟨v, hv, v, G, rfl, hE, hR.ok, hR.heap, rv, hc⟩
  | cons d ds ih =>
    intro rs l H own G w hD hn hm hl hcells hR hE
    cases hD with
    | mark r hD =>
      obtain ⟨hq0, hq1, hq2⟩ := hm r (by simp)
      obtain ⟨hn1, hn2⟩ := List.nodup_cons.1 hn
      obtain ⟨h2, h3, h4⟩ := shut_rel hR hE hK hq0 hq1 hq2
      refine ⟨by simp, .inl ⟨r, _, rfl, run_takeDeferred hq1, ih _ _ H own G _ (hD.mono h4) hn2 (fun q hq => ?_) hl hcells h2 h3⟩⟩
      obtain ⟨a1, a2, a3⟩ := hm q (by simp [hq])
      have hqr : q ≠ r := by rintro rfl; exact hn1 hq
      exact ⟨a1, (World.putObj_heap_other hqr).trans a2, a3⟩
    | call i g cap vs hv hD =>
      simp only [leaveA] at hl
      have hinv : hasBody P g = true → (invoke (.fn (.func g) vs) #[]).run P w = .ok (.enter g vs) w := by
        intro hb
        simp only [invoke, Array.empty_append]
        exact run_callFunc hP.num hb _
      cases hq : quietF P g with
      | true =>
        rw [hq] at hl
        simp only [cond_true] at hl
        obtain ⟨hb, hc⟩ := quiet_calls (G := G) (w := w) (caps := vs) (m := m - 1) (u := .returning) rfl hq
        refine ⟨by simp, .inr ⟨(fun e => by cases e), _, _, g, vs, rfl, hinv hb, fun _ _ => trivial, hc.mono ?_⟩⟩
        rintro e u' w' ⟨rfl, ⟨v, rfl⟩, rfl⟩
        exact ih _ _ H own G _ hD hn hm hl hcells hR hE
      | false =>
        rw [hq] at hl
        simp only [cond_false] at hl
        split at hl
        case h_2 => cases hl
        rename_i H1 own1 hbd
        cases hv with
        | fn _ _ _ hcl hcr =>
        obtain ⟨hb, hcells1, hc⟩ := bodyD_calls hP hex hbd (G := G.callee) (w := w) (vals := vs) (show G.lo ≤ lo by rw [hE.lo]; exact hgl) (callee_gok hR.ok) ⟨hR.heap.dom, hR.heap.blk, hR.heap.inj, hR.heap.lim⟩
          ⟨fun id off b k cs hm hf hk hb => callee_own (hR.own.cell id off b k cs hm hf hk hb), fun id off hm => hR.own.dom id off hm⟩ ⟨hcl, hcr⟩ (u := .returning) (m := m - 1)
        refine ⟨by simp, .inr ⟨(fun e => by cases e), _, _, g, vs, rfl, hinv hb, fun _ _ => trivial, hc.mono ?_⟩⟩
        rintro e u' w' ⟨rfl, y, v, G', rfl, hdone⟩
        have hnof : own.filter (fun l => !l.isCell) = [] := List.filter_eq_nil_iff.2 fun lc hlc => by rw [hcells lc hlc]; simp
        have hdn := back_done hR.ok hR.heap hR.own hdone 0
        obtain ⟨hR3, hE3⟩ := put_sound (dst := none) hR (st' := ⟨env, H1, own.filter (fun l => !l.isCell) ++ own1.filter Loc.isCell⟩) rfl 0 (fun q e => by cases e) (fun _ hm => by rw [hnof] at hm; have := (List.mem_filter.1 hm).2; cases this) hdn
        rw [hnof, List.nil_append, List.filter_eq_self.2 hcells1] at hR3
        refine ih _ _ H1 own1 _ _ (hD.mono hE3.mem) hn (fun r hr => ?_) hl hcells1 hR3 (hE.trans hE3)
        obtain ⟨a1, a2, a3⟩ := hm r hr
        obtain ⟨b1, _, b3⟩ := hE3.foreign r (Array.getElem?_eq_some_iff.1 a2).1 a3.1
        exact ⟨a1, b1.trans a2, a3.off b3⟩

theorem body_step {K : Know} (hP : POk P) (n : Nat) (hex : CodeSound P K.lo (exec P K n)) : CallSound P ⟨bodyA (exec P K n) P K, K.lo⟩ := by
  intro f args H own out h G w vals hgl g hH ho har
  change bodyA (exec P K n) P K f args H own = some out at h
  unfold bodyA at h
  split at h
  case h_2 => cases h
  rename_i fn hfn
  split at h
  case h_2 => cases h
  rename_i c hc
  split at h
  case isFalse => cases h
  rename_i hle
  have hok := hP.code f fn c hfn hc
  have hsz := hP.size f fn hfn
  have hdone : ∀ e st1, exec P K n (K.vars f) fn.ntmps c ⟨zipArgs 0 args, H, own.filter Loc.isCell⟩ = some (e, st1) → (e = .ret ∨ e = .normal) → endA (exec P K n) P K fn.results.toList st1 = some out →
      Calls P f vals w fun e w' => ∃ v G', e = .returned v ∧ CallDone P G w out v w' G' := by
    intro e st1 hst he hres
    refine of_calls_fw (ro := none) (n := 0) (callsIn_of_wp_marks hfn hc trivial ?_)
    have hlz : look (zipArgs 0 args) DEF = .undef := by
      rw [look_zip, if_pos (Nat.zero_le _), Nat.sub_zero, List.getD_eq_getElem?_getD, List.getElem?_eq_none (Nat.le_trans hle hsz)]
      rfl
    refine hex _ _ _ _ _ _ hst hok none 0 (.frame w.heap.size) (.inl ⟨rfl, fun e => by cases e⟩) G _ w hgl (rel0 g hH ho har hle (by rw [hlz]; exact MarksOk.nil G hsz (Nat.le_refl _))) _ ?_
    intro a' w' G' hR' hE
    obtain ⟨_, _, rs, l, hl, hD, hn, hm⟩ := hR'.defers
    have hRc : Rel P .round G' fn.ntmps ⟨st1.env, st1.H, st1.own.filter Loc.isCell⟩ { tmps := a'.tmps, defers := [] } w' :=
      ⟨hR'.ok, hR'.heap, ⟨fun s hs => (by have := (List.mem_filter.1 hs).2; cases this), fun id off b k cs hm => hR'.own.cell id off b k cs (List.mem_filter.1 hm).1, fun id off hm => hR'.own.dom id off (List.mem_filter.1 hm).1⟩, hR'.env, hR'.size, trivial⟩
    have hcells : ∀ lc ∈ st1.own.filter Loc.isCell, lc.isCell = true := fun lc h => (List.mem_filter.1 h).2
    have fin : LeavesInM (fw none) 0 P fn a'.tmps (fun e w' => ∃ v G', e = .returned v ∧ CallDone P G w out v w' G') a'.defers .returning w' := by
      unfold endA at hres
      split at hres
      · rename_i e
        rw [e] at hl
        injection hl with hl; subst hl
        cases hx : resultsA P st1 fn.results.toList with
        | none => rw [hx] at hres; cases hres
        | some x =>
          rw [hx] at hres; simp only [Option.map_some, Option.some.injEq] at hres; subst hres
          exact leaves_all (K := K) hP hex hgl g.held (env := st1.env) (resultsA_own hx) _ _ _ _ _ _ _ hD hn hm rfl hcells hRc hE
      · rename_i e
        rw [e] at hl
        injection hl with hl; subst hl
        split at hres
        case h_2 => cases hres
        rename_i H1 own1 hlv
        cases hx : resultsA P ⟨st1.env, H1, own1⟩ fn.results.toList with
        | none => rw [hx] at hres; cases hres
        | some x =>
          rw [hx] at hres; simp only [Option.map_some, Option.some.injEq] at hres; subst hres
          exact leaves_all (K := K) hP hex hgl g.held (env := st1.env) hx _ _ _ _ _ _ _ hD hn hm hlv hcells hRc hE
      · cases hres
    rcases he with rfl | rfl
    · exact fin
    · exact fin
  split at h
  · rename_i st1 hst; exact hdone _ _ hst (.inl rfl) h
  · rename_i st1 hst; exact hdone _ _ hst (.inr rfl) h
  · cases h

theorem call_step {K : Know} (hP : POk P) (hS : ShortSound P K) (n : Nat) (hex : CodeSound P K.lo (exec P K n)) : CallSound P (cN P K (n + 1)) := by
  intro f args H own out h G w vals hgl g hH ho har
  change callK P (n + 1) K f args H own = some out at h
  rw [call_succ] at h
  split at h
  · rename_i q hq
    exact hS f q hq K.lo f args H own out (by show (if f = f then _ else _) = _; rw [if_pos rfl]; exact h) G w vals hgl g hH ho har
  · cases hbad : K.bad f with
    | true => rw [hbad] at h; cases h
    | false =>
    rw [hbad] at h
    simp only [cond_false] at h
    unfold fzOut at h
    cases hz : K.fz f with
    | false => rw [hz] at h; exact body_step hP n hex f args H own out h G w vals hgl g hH ho har
    | true =>
      rw [hz] at h
      simp only [cond_true] at h
      split at h
      case h_2 => cases h
      rename_i x H1 own1 hb
      cases hs : fzSafe K.lo H1 x with
      | false => rw [hs] at h; cases h
      | true =>
      rw [hs] at h
      injection h with h; subst h
      refine (body_step hP n hex f args H own _ hb G w vals hgl g hH ho har).mono ?_
      rintro e w' ⟨v, G', rfl, hd⟩
      obtain ⟨G2, h2⟩ := fz_done hgl hs hd
      exact ⟨v, G2, rfl, h2⟩

/-- What a call that is handed no ends may write: no block that is there. -/
def Gh.shut (G : Gh) (n : Nat) : Gh := { G with owner := fun _ => none, lo := n }
def Gh.open (G G' : Gh) : Gh := { G' with owner := fun b => match G.owner b with | some l => some l | none => G'.owner b, lo := G.lo }
theorem shut_foot {G : Gh} {n : Nat} (hn : ∀ id b, G.f id = some b → id < n) {b : Nat} : ¬ Foot (G.shut n) b := by
  rintro (⟨⟨id, h1, h2⟩, _⟩ | h)
  · have := hn id b h2
    have h1 : n ≤ id := h1
    omega
  · cases h
theorem dn_own {K : Know} {n : Nat} : CallOwn (dN P K n) := by
  intro f args H own x H' own' hc
  change cond (Nat.ble K.lo H.length) (noOwn H.length own (callK P n (K.up H.length) f args H [])) none = some (x, H', own') at hc
  cases hb : Nat.ble K.lo H.length with
  | false => rw [hb] at hc; cases hc
  | true =>
    rw [hb] at hc
    obtain ⟨own2, hc2, rfl⟩ := noOwn_some (show noOwn H.length own _ = _ from hc)
    refine ⟨_, fun l hl => (List.mem_filter.1 hl).2, rfl, fun own3 => ?_⟩
    show cond (Nat.ble K.lo H.length) (noOwn H.length own3 (callK P n (K.up H.length) f args H [])) none = _
    rw [hb, hc2]; rfl
theorem dn_sound {K : Know} {n : Nat} (h : ∀ m, CallSound P (cN P (K.up m) n)) (hlk : ∀ m, CallLock (cN P (K.up m) n)) : CallSound P (dN P K n) := by
  intro f args H own out hc
  change cond (Nat.ble K.lo H.length) (noOwn H.length own (callK P n (K.up H.length) f args H [])) none = some out at hc
  cases hb : Nat.ble K.lo H.length with
  | false => rw [hb] at hc; cases hc
  | true =>
    rw [hb] at hc
    obtain ⟨x, H', own2⟩ := out
    obtain ⟨own', hc2, rfl⟩ := noOwn_some (show noOwn H.length own _ = _ from hc)
    intro G w vals hgl g hH ho har
    have hlt : ∀ id b, G.f id = some b → id < H.length := fun id b hf => (hH.dom id b hf).lt
    have hmax : (K.up H.length).lo = H.length := Nat.max_eq_right (Nat.ble_eq.mp hb)
    have hlock : Lock H.length H H' := by
      have := hlk H.length f args H [] x H' own' hc2 (by show (K.up H.length).lo ≤ _; rw [hmax]; exact Nat.le_refl _)
      change Lock (K.up H.length).lo H H' at this
      rw [hmax] at this
      exact this
    have g1 : GOk (G.shut H.length) w := ⟨fun id b hf => ⟨(g.fin id b hf).1, rfl⟩, fun b hb => ⟨(g.new b hb).1, rfl, (g.new b hb).2.2⟩, ⟨fun b hb => ⟨(g.held.lt b hb).1, shut_foot hlt⟩, g.held.is⟩⟩
    refine (h H.length f args H [] _ hc2 (G.shut H.length) w vals (by show H.length ≤ (K.up H.length).lo; rw [hmax]; exact Nat.le_refl _) g1 ⟨hH.dom, hH.blk, hH.inj, hH.lim⟩ ⟨fun id off b k cs hm => (by cases hm), fun id off hm => (by cases hm)⟩ har).mono ?_
    rintro e w' ⟨v, G', rfl, hd⟩
    obtain ⟨hext, hok, hheap, hrep, hown⟩ := hd
    have hfor : ∀ b, b < w.heap.size → w'.heap[b]? = w.heap[b]? ∧ G'.lim b = G.lim b ∧ ¬ Foot G' b ∧ ∀ id, G'.f id = some b → G.f id = some b := fun b hb => by
      obtain ⟨a1, a2, a3, a4⟩ := hext.foreign b hb (shut_foot hlt)
      exact ⟨a1, a2, a3, a4⟩
    have hlo' : G'.lo = H.length := hext.lo
    have how : ∀ b l, G.owner b = some l → b < w.heap.size := by
      intro b l hb
      rcases Nat.lt_or_ge b w.heap.size with h | h
      · exact h
      · have := (g.new b h).2.1; rw [hb] at this; cases this
    have hfin : ∀ id b, G'.f id = some b → b < w'.heap.size ∧ (G.open G').owner b = none := by
      intro id b hf
      obtain ⟨h1, h2⟩ := hok.fin id b hf
      refine ⟨h1, ?_⟩
      show (match G.owner b with | some l => some l | none => G'.owner b) = none
      cases hb : G.owner b with
      | none => exact h2
      | some l =>
        have hf' := (hfor b (how b l hb)).2.2.2 id hf
        have := (g.fin id b hf').2
        rw [hb] at this; cases this
    have hfoot : ∀ b, b < w.heap.size → ¬ Foot G b → ¬ Foot (G.open G') b := by
      intro b hb hn
      obtain ⟨a1, a2, a3, a4⟩ := hfor b hb
      rintro (⟨⟨id, h1, h2⟩, hl⟩ | h)
      · exact hn (.inl ⟨⟨id, h1, a4 id h2⟩, by rw [← a2]; exact hl⟩)
      · change (match G.owner b with | some l => some l | none => G'.owner b).isSome = true at h
        split at h
        · rename_i l e; exact hn (.inr (by rw [e]; rfl))
        · exact a3 (.inr h)
    have hext2 : Ext G w (G.open G') w' := by
      refine ⟨hext.os, hext.tape, hext.output, hext.size, hext.prot, hext.f, hext.bs, fun b hb hn => ?_, rfl⟩
      obtain ⟨a1, a2, a3, a4⟩ := hfor b hb
      exact ⟨a1, a2, hfoot b hb hn, a4⟩
    refine ⟨v, G.open G', rfl, hext2, ⟨hfin, fun b hb => ?_, hext2.held g.held⟩, ⟨hheap.dom, hheap.blk, hheap.inj, hheap.lim⟩, hrep, ⟨fun id off b k cs hm hf hk hbk => ?_, fun id off hm => ?_⟩⟩
    · obtain ⟨h1, h2, h3⟩ := hok.new b hb
      refine ⟨h1, ?_, h3⟩
      show (match G.owner b with | some l => some l | none => G'.owner b) = none
      rw [(g.new b (Nat.le_trans hext.size hb)).2.1]
      exact h2
    · rcases List.mem_append.1 hm with hm | hm
      · obtain ⟨⟨k0, hk0⟩, b0, hb0⟩ := ho.dom id off hm
        have hb1 : G'.f id = some b0 := hext.f _ _ hb0
        have e : some b = some b0 := hf.symm.trans hb1
        injection e with e
        subst e
        have hbl := (g.fin id b hb0).1
        have hidl : id < H.length := hlt id b hb0
        have hkk : k = k0 := by
          have := hlock.2 id hidl
          rw [hk, hk0] at this
          injection this with this
          injection this
        subst hkk
        rw [(hfor b hbl).1] at hbk
        intro e xs hx
        obtain ⟨sz, cells, h1, h2, h3, h4⟩ := ho.cell id off b k cs hm hb0 hk0 hbk e xs hx
        refine ⟨sz, cells, h1, h2, ?_, fun q hq => ?_⟩
        · rcases h3.2 with hn | ⟨q, cap, cur, hv, hq0, ⟨fr, hh, hfr⟩, rest⟩
          · exact ⟨h3.1, .inl hn⟩
          · have hq := h4 q (by rw [hv]; rfl)
            exact ⟨h3.1, .inr ⟨q, cap, cur, hv, hq0, ⟨fr, by rw [(hfor q (how q _ hq.1)).1]; exact hh, hfr⟩, rest⟩⟩
        · have hq := h4 q hq
          refine ⟨?_, ?_⟩
          · show (match G.owner q with | some l => some l | none => G'.owner q) = _
            rw [hq.1]
          · show G'.lim q = _
            rw [(hfor q (how q _ hq.1)).2.1]; exact hq.2
      · have hm := (List.mem_filter.1 hm).1
        intro e xs hx
        obtain ⟨sz, cells, h1, h2, h3, h4⟩ := hown.cell id off b k cs hm hf hk hbk e xs hx
        refine ⟨sz, cells, h1, h2, h3, fun q hq => ⟨?_, (h4 q hq).2⟩⟩
        have hq' := (h4 q hq).1
        show (match G.owner q with | some l => some l | none => G'.owner q) = _
        cases hg : G.owner q with
        | none => exact hq'
        | some l =>
          have := (hfor q (how q l hg)).2.2.1
          exact absurd (.inr (by rw [hq']; rfl)) this
    · rcases List.mem_append.1 hm with hm | hm
      · obtain ⟨⟨k0, hk0⟩, b0, hb0⟩ := ho.dom id off hm
        refine ⟨⟨k0, ?_⟩, b0, hext.f _ _ hb0⟩
        have := hlock.2 id (hlt id b0 hb0)
        rw [hk0] at this
        exact this
      · obtain ⟨h1, b0, h2⟩ := hown.dom id off (List.mem_filter.1 hm).1
        exact ⟨h1, b0, h2⟩

/-- ALL OF IT: what the machine says of a call, Go's program does. -/
theorem machine_sound (hP : POk P) : ∀ (n : Nat) (K : Know), ShortSound P K → ShortLocal K → CallSound P (cN P K n) ∧ CodeSound P K.lo (exec P K n) := by
  intro n
  induction n using Nat.strongRecOn with
  | _ n ih =>
    intro K hS hL
    cases n with
    | zero => exact ⟨fun f args H own out h => (by cases h), fun vars nt c st e st' h => (by cases h)⟩
    | succ n =>
      have hup : ∀ m, CallSound P (cN P (K.up m) n) := fun m => (ih n (Nat.lt_succ_self n) (K.up m) hS hL).1
      have hn := ih n (Nat.lt_succ_self n) K hS hL
      have hl : ∀ m, CallLock (cN P (K.up m) n) ∧ CallFill (cN P (K.up m) n) := fun m => (local_all n (K.up m) hL).1
      exact ⟨call_step hP hS n hn.2, code_step hP n hn.1 (dn_sound hup fun m => (hl m).1) ⟨full_lock fun m => (hl m).1, dn_fill fun m => (hl m).2, dn_own⟩ (local_all n K hL).1.1 fun m hm => (ih m hm K hS hL).2⟩

end
end Go.Proofs.YtomheegfobcijaaGreatDoor.Am

/- The abstract machine is right, eighteenth part: two operations that have nothing to do with each other change places. -/
namespace Go.Proofs.YtomheegfobcijaaGreatDoor.Am
set_option linter.unusedVariables false
set_option linter.unusedSimpArgs false
open Go.RowKit

section
variable {P : Program} {call : CallA} {ops : List Oper} {nt base : Nat} {lt : Option WS} {ws : WS} {mx : Bool}

def coreW (call : CallA) (P : Program) (pre : Option (Nat × Option WS)) (ops : List Oper) (o : Oper) (env : List (Nat × AV)) (H : List (Option Blk)) (own : List Loc) : Option Res :=
  match wantedA ops env o with
  | some true => coreP call P pre ops o env H own
  | some false => some ⟨.tup [], H, own, false⟩
  | none => none
def putEnv (env : List (Nat × AV)) (dst : Option Nat) (v : AV) : List (Nat × AV) :=
  match dst with
  | none => env
  | some d => (d, v) :: env
def putOwn (own : List Loc) (gives : Bool) (dst : Option Nat) : List Loc :=
  match dst with
  | none => own
  | some d => cond gives (give own (.slot d)) (drop own (.slot d))

theorem put_iff {r : Res} {env : List (Nat × AV)} {dst : Option Nat} {st : St} : r.put nt env dst = some st ↔ (∀ d, dst = some d → d < nt) ∧ st = ⟨putEnv env dst r.val, r.H, putOwn r.own r.gives dst⟩ := by
  cases dst with
  | none => simp only [Res.put, putEnv, putOwn, Option.some.injEq]; exact ⟨fun h => ⟨fun d e => (by cases e), h.symm⟩, fun h => h.2.symm⟩
  | some d =>
    simp only [Res.put, putEnv, putOwn]
    constructor
    · intro h
      split at h
      · rename_i hl; injection h with h; exact ⟨fun q e => by injection e with e; omega, h.symm⟩
      · cases h
    · rintro ⟨h1, h2⟩
      rw [if_pos (h1 d rfl), h2]

theorem stepW_iff {pre : Option (Nat × Option WS)} {o : Oper} {st st' : St} : stepW call P nt pre ops o st = some st' ↔ ∃ r, coreW call P pre ops o st.env st.H st.own = some r ∧ r.put nt st.env o.dst = some st' := by
  unfold stepW coreW
  cases hw : wantedA ops st.env o with
  | none => exact ⟨fun h => (by cases h), fun ⟨r, hr, h⟩ => (by cases hr)⟩
  | some b =>
    cases b with
    | false => exact ⟨fun h => ⟨_, rfl, h⟩, fun ⟨r, hr, h⟩ => by injection hr with hr; rw [← hr] at h; exact h⟩
    | true =>
      simp only
      unfold stepOp
      constructor
      · intro h
        split at h
        · rename_i r hr; exact ⟨r, hr, h⟩
        · cases h
      · intro h
        obtain ⟨r, hr, h⟩ := h
        rw [hr]; exact h

theorem wanted_env {env env' : List (Nat × AV)} {o : Oper} (h : ∀ s ∈ reads ops o, look env s = look env' s) : wantedA ops env o = wantedA ops env' o := by
  unfold wantedA
  split
  · rfl
  · rename_i j want hg
    split
    · rename_i d op ty pos after guard hj
      rw [h d (by unfold reads guardSlot; rw [hg]; simp only; rw [hj]; simp)]
    · rfl
theorem newAt_env {env env' : List (Nat × AV)} {H : List (Option Blk)} {own : List Loc} {o : Oper} {id : Nat} (h : ∀ s ∈ opSlots o, look env s = look env' s) : newAt P o env H own id = newAt P o env' H own id := by
  unfold newAt
  split
  · split
    · rfl
    · rename_i e x hx
      rw [evalO_env (env := env) (env' := env') fun s hs => h s (by unfold opSlots; exact List.mem_filterMap.2 ⟨x, by rw [hx]; simp [Op.operands], by rw [hs]⟩)]
    · rfl
    · rfl
  · rfl
theorem newSl_env {e : TypeId} {env env' : List (Nat × AV)} {H : List (Option Blk)} {own : List Loc} {o : Oper} (h : ∀ s ∈ opSlots o, look env s = look env' s) : newSl P e o.op env H own = newSl P e o.op env' H own := by
  have hx : ∀ x ∈ o.op.operands.toList, evalO env x = evalO env' x := fun x hm => evalO_env fun s e => h s (by unfold opSlots; exact List.mem_filterMap.2 ⟨x, hm, by rw [e]⟩)
  unfold newSl
  split
  · rename_i t l c e1
    rw [hx l (by rw [e1]; simp [Op.operands]), hx c (by rw [e1]; simp [Op.operands])]
  · rename_i args argTypes e1
    split
    · rename_i s x ts tx hargs htys
      have ea : args = #[s, x] := by apply Array.ext'; simpa using hargs
      rw [hx s (by rw [e1, ea]; simp [Op.operands, Call.operands]), hx x (by rw [e1, ea]; simp [Op.operands, Call.operands])]
    · rfl
  · rfl
theorem okSl_env {lo : Nat} {env env' : List (Nat × AV)} {o : Oper} (h : ∀ s ∈ opSlots o, look env s = look env' s) : okSl lo o.op env = okSl lo o.op env' := by
  unfold okSl
  split
  · rename_i args at_ e1
    split
    · rename_i x r ha
      have : evalO env x = evalO env' x := evalO_env fun s hs => h s (List.mem_filterMap.2 ⟨x, by rw [e1]; simp [Op.operands, Call.operands, ha], by rw [hs]⟩)
      rw [this]
    · rfl
  · rfl
theorem coreS_env {env env' : List (Nat × AV)} {H : List (Option Blk)} {own : List Loc} {o : Oper} (h : ∀ s ∈ opSlots o, look env s = look env' s) : coreS call P ops o env H own = coreS call P ops o env' H own := by
  unfold coreS
  split
  · rw [okSl_env h, newSl_env h]
  · cases isMapO o with
    | true => exact coreM_env h
    | false => exact core_env h
theorem newSl_own {e : TypeId} {op : Op} {env : List (Nat × AV)} {H : List (Option Blk)} {own : List Loc} {r : Res} (h : newSl P e op env H own = some r) : r.own = own ∧ ∀ own', newSl P e op env H own' = some ⟨r.val, r.H, own', r.gives⟩ := by
  unfold newSl at *
  split at h
  · split at h
    · split at h
      · split at h
        · rename_i hc
          injection h with h; subst h
          exact ⟨rfl, fun own' => by simp only [if_pos hc]⟩
        · cases h
      · cases h
    · cases h
  · split at h
    · split at h
      · split at h
        · split at h
          · split at h
            · rename_i hc
              injection h with h; subst h
              exact ⟨rfl, fun own' => by simp only [if_pos hc]⟩
            · cases h
          · split at h
            · rename_i hb
              split at h
              · rename_i hc
                injection h with h; subst h
                exact ⟨rfl, fun own' => by simp only [hb, if_pos hc]⟩
              · cases h
            · cases h
          · cases h
        · cases h
      · cases h
    · cases h
  · cases h
theorem slElem_op {o : Oper} {e : TypeId} (h : slElem P o = some e) : slOp o = true := by
  unfold slElem at h
  unfold slOp
  split at h
  · rename_i t ht
    cases hm : mutT t o.dst with
    | true => rfl
    | false => rw [hm] at h; cases h
  · cases h
theorem slOp_heap {o : Oper} (h : slOp o = true) : heapOp o = true := by
  unfold heapOp
  split <;> first | rfl | (rw [h]; rfl)
theorem coreS_core {o : Oper} (h : heapOp o = false) : slElem P o = none := by
  cases hs : slElem P o with
  | none => rfl
  | some e => rw [slOp_heap (slElem_op hs)] at h; cases h
theorem coreS_own {env : List (Nat × AV)} {H : List (Option Blk)} {own : List Loc} {o : Oper} {r : Res} (he : ends ops o = false) (h : coreS call P ops o env H own = some r) :
    r.own = own ∧ ∀ own', coreS call P ops o env H own' = some ⟨r.val, r.H, own', r.gives⟩ := by
  unfold coreS at *
  split at h
  · cases hk : okSl call.lo o.op env with
    | true => rw [hk] at h; exact newSl_own h
    | false => rw [hk] at h; cases h
  · cases hm : isMapO o with
    | true => rw [hm] at h; simp only [cond_true] at h ⊢; exact coreM_own h
    | false => rw [hm] at h; simp only [cond_false] at h ⊢; exact core_own he h
theorem coreS_frame {S : Nat → Prop} {env : List (Nat × AV)} {H : List (Option Blk)} {own own' : List Loc} {o : Oper} {r : Res} (hS : ∀ s, S s → s ∉ opSlots o) (hl : Like S own own') (h : coreS call P ops o env H own = some r) :
    ∃ oo, coreS call P ops o env H own' = some ⟨r.val, r.H, oo, r.gives⟩ ∧ Like S r.own oo ∧ ∀ s, S s → (Loc.slot s ∈ r.own ↔ Loc.slot s ∈ own) ∧ (Loc.slot s ∈ oo ↔ Loc.slot s ∈ own') := by
  unfold coreS at *
  split at h
  · cases hk : okSl call.lo o.op env with
    | true =>
      rw [hk] at h
      obtain ⟨h1, h2⟩ := newSl_own h
      exact ⟨own', h2 own', by rw [h1]; exact hl, fun s _ => ⟨by rw [h1], Iff.rfl⟩⟩
    | false => rw [hk] at h; cases h
  · cases hm : isMapO o with
    | true =>
      rw [hm] at h
      simp only [cond_true] at h ⊢
      obtain ⟨h1, h2⟩ := coreM_own h
      exact ⟨own', h2 own', by rw [h1]; exact hl, fun s _ => ⟨by rw [h1], Iff.rfl⟩⟩
    | false => rw [hm] at h; simp only [cond_false] at h ⊢; exact core_frame hS hl h
theorem coreP_env {pre : Option (Nat × Option WS)} {env env' : List (Nat × AV)} {H : List (Option Blk)} {own : List Loc} {o : Oper} (h : ∀ s ∈ opSlots o, look env s = look env' s) : coreP call P pre ops o env H own = coreP call P pre ops o env' H own := by
  unfold coreP
  rw [coreS_env h]
  split
  · rfl
  · rename_i b lt
    have hl : lateNo b lt ops o env = lateNo b lt ops o env' := by
      unfold lateNo
      cases lt with
      | none => rfl
      | some ws =>
      have hx : ∀ x ∈ o.op.operands.toList, evalO env x = evalO env' x := fun x hm => evalO_env fun s e => h s (by unfold opSlots; exact List.mem_filterMap.2 ⟨x, hm, by rw [e]⟩)
      have : lateOk ops b ws o env = lateOk ops b ws o env' := by
        unfold lateOk
        split
        · rename_i t a e; rw [hx a (by rw [e]; simp [Op.operands])]
        · rename_i t a x y e; rw [hx a (by rw [e]; simp [Op.operands])]
        · rename_i t a x e; rw [hx a (by rw [e]; simp [Op.operands])]
        · rfl
      show (!(lateOk ops b ws o env)) = !(lateOk ops b ws o env')
      rw [this]
    rw [hl]
    congr 1
    split
    · split
      · exact newAt_env h
      · rfl
    · rfl
theorem coreW_env {pre : Option (Nat × Option WS)} {env env' : List (Nat × AV)} {H : List (Option Blk)} {own : List Loc} {o : Oper} (h : ∀ s ∈ reads ops o, look env s = look env' s) : coreW call P pre ops o env H own = coreW call P pre ops o env' H own := by
  unfold coreW
  rw [wanted_env h, coreP_env fun s hs => h s (by unfold reads; exact List.mem_append_right _ hs)]
theorem newAt_some {env : List (Nat × AV)} {H : List (Option Blk)} {own : List Loc} {o : Oper} {id : Nat} {r : Res} (h : newAt P o env H own id = some r) :
    ∃ v k, H[id]? = some none ∧ r = ⟨v, H.set id (some k), own, false⟩ ∧ ∀ H' own', H'[id]? = some none → newAt P o env H' own' id = some ⟨v, H'.set id (some k), own', false⟩ := by
  unfold newAt at h ⊢
  split at h
  case h_2 => cases h
  rename_i hh
  split at h
  · split at h
    · rename_i z hz
      split at h
      · rename_i hp
        injection h with h
        exact ⟨_, _, hh, h.symm, fun H' own' e => by rw [e]; simp only [if_pos hp]⟩
      · cases h
    · cases h
  · split at h
    · rename_i v hv
      split at h
      · rename_i hp
        injection h with h
        exact ⟨_, _, hh, h.symm, fun H' own' e => by rw [e]; simp only [if_pos hp]⟩
      · cases h
    · cases h
  · injection h with h
    exact ⟨_, _, hh, h.symm, fun H' own' e => by rw [e]⟩
  · cases h
/-- With places kept: an operation that makes a block, or 'core'. -/
theorem coreP_cases {env : List (Nat × AV)} {H : List (Option Blk)} {own : List Loc} {o : Oper} {r : Res} (h : coreP call P (some (base, lt)) ops o env H own = some r) :
    (allocOp o = false ∧ coreS call P ops o env H own = some r ∧ (∀ ws, lt = some ws → lateOk ops base ws o env = true) ∧ ∀ H' own', coreP call P (some (base, lt)) ops o env H' own' = coreS call P ops o env H' own') ∨
    (allocOp o = true ∧ ∃ d k, o.dst = some d ∧ rank ops d = some k ∧ newAt P o env H own (base + k) = some r ∧ ∀ H' own', coreP call P (some (base, lt)) ops o env H' own' = newAt P o env H' own' (base + k)) := by
  unfold coreP at h ⊢
  cases ha : allocOp o with
  | false =>
    rw [ha] at h
    simp only [cond_false] at h ⊢
    cases hl : (lateNo base lt ops o env) with
    | true => rw [hl] at h; cases h
    | false =>
      rw [hl] at h
      refine .inl ⟨trivial, h, fun ws e => ?_, fun _ _ => rfl⟩
      rw [e] at hl
      have hl : (!(lateOk ops base ws o env)) = false := hl
      simpa using hl
  | true =>
    rw [ha] at h
    simp only [cond_true] at h ⊢
    split at h
    · rename_i d hd
      split at h
      · rename_i k hk
        exact .inr ⟨trivial, d, k, hd, hk, h, fun _ _ => by simp only [hk]⟩
      · cases h
    · cases h
theorem coreW_own {env : List (Nat × AV)} {H : List (Option Blk)} {own : List Loc} {o : Oper} {r : Res} (he : ends ops o = false) (h : coreW call P (some (base, lt)) ops o env H own = some r) :
    r.own = own ∧ ∀ own', coreW call P (some (base, lt)) ops o env H own' = some ⟨r.val, r.H, own', r.gives⟩ := by
  unfold coreW at *
  split at h
  · rcases coreP_cases h with ⟨_, h1, hlate, h2⟩ | ⟨_, d, k, _, _, h1, h2⟩
    · obtain ⟨q1, q2⟩ := coreS_own he h1
      exact ⟨q1, fun own' => by simp only [h2]; exact q2 own'⟩
    · obtain ⟨_, b, q1, q2, q3⟩ := newAt_some h1
      subst q2
      exact ⟨rfl, fun own' => by simp only [h2]; exact q3 H own' q1⟩
  · injection h with h; subst h; exact ⟨rfl, fun _ => rfl⟩
  · cases h
theorem coreW_frame {S : Nat → Prop} {env : List (Nat × AV)} {H : List (Option Blk)} {own own' : List Loc} {o : Oper} {r : Res} (hS : ∀ s, S s → s ∉ reads ops o) (hl : Like S own own') (h : coreW call P (some (base, lt)) ops o env H own = some r) :
    ∃ oo, coreW call P (some (base, lt)) ops o env H own' = some ⟨r.val, r.H, oo, r.gives⟩ ∧ Like S r.own oo ∧ ∀ s, S s → (Loc.slot s ∈ r.own ↔ Loc.slot s ∈ own) ∧ (Loc.slot s ∈ oo ↔ Loc.slot s ∈ own') := by
  unfold coreW at *
  split at h
  · rcases coreP_cases h with ⟨_, h1, hlate, h2⟩ | ⟨_, d, k, _, _, h1, h2⟩
    · obtain ⟨oo, q1, q2, q3⟩ := coreS_frame (S := S) (fun s hs hm => hS s hs (by unfold reads; exact List.mem_append_right _ hm)) hl h1
      exact ⟨oo, by simp only [h2]; exact q1, q2, q3⟩
    · obtain ⟨_, b, q1, q2, q3⟩ := newAt_some h1
      subst q2
      exact ⟨own', by simp only [h2]; exact q3 H own' q1, hl, fun s _ => ⟨Iff.rfl, Iff.rfl⟩⟩
  · injection h with h; subst h; exact ⟨own', rfl, hl, fun s _ => ⟨Iff.rfl, Iff.rfl⟩⟩
  · cases h
/-- A block that an operation reads. -/
def Asks (env : List (Nat × AV)) (o : Oper) (id : Nat) : Prop := (∃ t a off, o.op = .load t a ∧ evalO env a = some (.ptr id off)) ∨ (isMapR o = true ∧ ∃ x a, o.op.operands.toList.head? = some x ∧ evalO env x = some a ∧ mapAsk a = some id)
theorem core_load_live {env : List (Nat × AV)} {H : List (Option Blk)} {own : List Loc} {o : Oper} {r : Res} {t : TypeId} {a : Operand} {id off : Nat} (e1 : o.op = .load t a) (e2 : evalO env a = some (.ptr id off)) (h : core call P ops o env H own = some r) : Live H id := by
  obtain ⟨dst, op, ty, pos, after, guard⟩ := o
  simp only at e1
  subst e1
  simp only [core, e2] at h
  cases hl : loadA P H t (.ptr id off) with
  | none => rw [hl] at h; cases h
  | some x =>
    unfold loadA at hl
    split at hl
    · simp only at hl
      split at hl
      · rename_i cs hr
        unfold readCells at hr
        split at hr
        · rename_i b hb
          exact ⟨b, hb⟩
        · cases hr
      · cases hl
    · cases hl
theorem coreW_heap {env : List (Nat × AV)} {H : List (Option Blk)} {own : List Loc} {o : Oper} {r : Res} (hh : heapOp o = false) (ha : allocOp o = false) (h : coreW call P (some (base, lt)) ops o env H own = some r) :
    r.H = H ∧ ∀ H', (∀ id, Asks env o id → Live H id → H'[id]? = H[id]?) → coreW call P (some (base, lt)) ops o env H' own = some ⟨r.val, H', r.own, r.gives⟩ := by
  unfold coreW at *
  split at h
  · rcases coreP_cases h with ⟨_, h1, hlate, h2⟩ | ⟨h1, _⟩
    · have hn := coreS_core (P := P) hh
      have hw : isMapW o = false := by
        cases hw : isMapW o with
        | false => rfl
        | true =>
          obtain ⟨dst, op, ty, pos, after, guard⟩ := o
          unfold isMapW at hw
          split at hw <;> first | (cases hw; done) | (rename_i e; simp only at e; subst e; first | (simp [heapOp, isMapU] at hh; done) | (simp [allocOp] at ha; done))
      cases hm : isMapO o with
      | true =>
        have hcs : ∀ H' own', coreS call P ops o env H' own' = coreM call.lo P o env H' own' := fun H' own' => by unfold coreS; rw [hn]; simp only [hm, cond_true]
        rw [hcs] at h1
        have h2 : ∀ H' own', coreP call P (some (base, lt)) ops o env H' own' = coreM call.lo P o env H' own' := fun H' own' => (h2 H' own').trans (hcs H' own')
        obtain ⟨q1, q2⟩ := coreM_heap hw h1
        have hmr : isMapR o = true := by unfold isMapO at hm; rw [hw] at hm; exact hm
        exact ⟨q1, fun H' hyp => by simp only [h2]; exact q2 H' fun x a id hx e1 e2 hl => hyp id (.inr ⟨hmr, x, a, hx, e1, e2⟩) hl⟩
      | false =>
      have hcs : ∀ H' own', coreS call P ops o env H' own' = core call P ops o env H' own' := fun H' own' => by unfold coreS; rw [hn]; simp only [hm, cond_false]
      rw [hcs] at h1
      have h2 : ∀ H' own', coreP call P (some (base, lt)) ops o env H' own' = core call P ops o env H' own' := fun H' own' => (h2 H' own').trans (hcs H' own')
      obtain ⟨q1, q2⟩ := core_heap hh ha h1
      exact ⟨q1, fun H' hyp => by simp only [h2]; exact q2 H' fun t a id off e1 e2 => hyp id (.inl ⟨t, a, off, e1, e2⟩) (core_load_live e1 e2 h1)⟩
    · rw [ha] at h1; cases h1
  · injection h with h; subst h; exact ⟨rfl, fun _ _ => rfl⟩
  · cases h
theorem coreW_alloc {env : List (Nat × AV)} {H : List (Option Blk)} {own : List Loc} {o : Oper} {r : Res} (ha : allocOp o = true) (h : coreW call P (some (base, lt)) ops o env H own = some r) :
    (∃ d q k, o.dst = some d ∧ rank ops d = some q ∧ H[base + q]? = some none ∧ r.H = H.set (base + q) (some k) ∧ ∀ H', H'[base + q]? = some none → coreW call P (some (base, lt)) ops o env H' own = some ⟨r.val, H'.set (base + q) (some k), r.own, r.gives⟩) ∨
    (r.H = H ∧ ∀ H', coreW call P (some (base, lt)) ops o env H' own = some ⟨r.val, H', r.own, r.gives⟩) := by
  unfold coreW at *
  split at h
  · rcases coreP_cases h with ⟨h1, _⟩ | ⟨_, d, k, e1, e2, h1, h2⟩
    · rw [ha] at h1; cases h1
    · obtain ⟨_, b, q1, q2, q3⟩ := newAt_some h1
      subst q2
      exact .inl ⟨d, k, b, e1, e2, q1, rfl, fun H' e => by simp only [h2]; exact q3 H' own e⟩
  · injection h with h; subst h; exact .inr ⟨rfl, fun _ => rfl⟩
  · cases h
theorem rank_inj : ∀ (l : List Oper) {d d' k : Nat}, rank l d = some k → rank l d' = some k → d = d'
  | [], _, _, _, h, _ => by cases h
  | o :: r, d, d', k, h, h' => by
    simp only [rank] at h h'
    cases ha : allocOp o with
    | false => rw [ha] at h h'; exact rank_inj r h h'
    | true =>
      rw [ha] at h h'
      simp only [cond_true] at h h'
      cases h1 : o.dst == some d with
      | true =>
        rw [h1] at h
        injection h with h; subst h
        cases h2 : o.dst == some d' with
        | true =>
          rw [beq_iff_eq] at h1 h2
          rw [h1] at h2; injection h2
        | false =>
          rw [h2] at h'
          simp only [cond_false] at h'
          cases hr : rank r d' with
          | none => rw [hr] at h'; cases h'
          | some q => rw [hr] at h'; simp at h'
      | false =>
        rw [h1] at h
        simp only [cond_false] at h
        cases h2 : o.dst == some d' with
        | true =>
          rw [h2] at h'
          injection h' with h'; subst h'
          cases hr : rank r d with
          | none => rw [hr] at h; cases h
          | some q => rw [hr] at h; simp at h
        | false =>
          rw [h2] at h'
          simp only [cond_false] at h'
          cases hr : rank r d with
          | none => rw [hr] at h; cases h
          | some q =>
            rw [hr] at h
            cases hr' : rank r d' with
            | none => rw [hr'] at h'; cases h'
            | some q' =>
              rw [hr'] at h'
              simp only [Option.map_some, Option.some.injEq] at h h'
              exact rank_inj r hr (by rw [hr']; congr 1; omega)
theorem coreW_late {env : List (Nat × AV)} {H : List (Option Blk)} {own : List Loc} {o : Oper} {r : Res} (hw : wantedA ops env o = some true) (h : coreW call P (some (base, lt)) ops o env H own = some r) (hlt : lt = some ws) (ha : allocOp o = false) : lateOk ops base ws o env = true := by
  unfold coreW at h
  rw [hw] at h
  rcases coreP_cases h with ⟨_, h1, hlate, h2⟩ | ⟨h1, _⟩
  · exact hlate ws hlt
  · rw [ha] at h1; cases h1
/-- A store, of a block of the region's own. -/
theorem coreW_store {env : List (Nat × AV)} {H : List (Option Blk)} {own : List Loc} {o : Oper} {r : Res} (hs : isStore o = true) (hlt : lt = some ws) (h : coreW call P (some (base, lt)) ops o env H own = some r) :
    (∀ id, (Nat.blt id base && !(ws.any fun p => stSlot o == some p.1 && Nat.beq id p.2)) = true → r.H[id]? = H[id]?) ∧ ∀ id, Live H id → Live r.H id := by
  unfold coreW at h
  split at h
  · rcases coreP_cases h with ⟨_, h1, hlate, h2⟩ | ⟨h1, _⟩
    · have hl := hlate ws hlt
      obtain ⟨dst, op, ty, pos, after, guard⟩ := o
      cases op with
      | store t a x =>
        have hn : slElem P { dst := dst, op := .store t a x, type := ty, pos := pos, after := after, guard := guard } = none := by unfold slElem slTy; rfl
        unfold coreS at h1
        rw [hn] at h1
        simp only [core] at h1
        split at h1
        · rename_i id off v e1 e2
          split at h1
          · rename_i H' hst
            injection h1 with h1; subst h1
            simp only [lateOk, e1] at hl
            have hge : ∀ j, (Nat.blt j base && !(ws.any fun p => stSlot { dst := dst, op := Op.store t a x, type := ty, pos := pos, after := after, guard := guard } == some p.1 && Nat.beq j p.2)) = true → j ≠ id := by
              rintro j hj rfl
              rw [Bool.and_eq_true] at hj
              rw [Bool.or_eq_true] at hl
              rcases hl with hl | hl
              · have h1 := Nat.ble_eq.mp hl
                have h2 := Nat.blt_eq.mp hj.1
                omega
              · rw [hl] at hj; exact absurd hj.2 (by simp)
            simp only
            replace hst := (storeL_some hst).2
            unfold storeA at hst
            split at hst
            · split at hst
              · split at hst
                · rename_i p q id' off' n' e3 e4 oo b e5 e6
                  injection e3 with e3 e7; subst e3; subst e7
                  injection hst with hst; subst hst
                  exact ⟨fun j hj => by rw [List.getElem?_set_ne (fun e => hge j hj e.symm)], fun j hj => hj.set _ _⟩
                · cases hst
              · cases hst
            · cases hst
          · cases h1
        · cases h1
      | _ => cases hs
    · unfold isStore at hs
      unfold allocOp at h1
      split at hs
      · rename_i e; rw [e] at h1; cases h1
      · cases hs
  · injection h with h; subst h; exact ⟨fun _ _ => rfl, fun _ h => h⟩
  · cases h
/-- What lives goes on living where nothing is called or stored. -/
theorem live_step {env : List (Nat × AV)} {H : List (Option Blk)} {own : List Loc} {o : Oper} {r : Res} (hh : heapOp o = false) (h : coreW call P (some (base, lt)) ops o env H own = some r) {id : Nat} (hl : Live H id) : r.H[id]? = H[id]? := by
  cases ha : allocOp o with
  | false => rw [(coreW_heap hh ha h).1]
  | true =>
    rcases coreW_alloc ha h with ⟨d, q, k, _, _, e, e', _⟩ | ⟨e, _⟩
    · rw [e', List.getElem?_set_ne]
      rintro rfl
      obtain ⟨b, hb⟩ := hl
      rw [e] at hb; cases hb
    · rw [e]
theorem mem_putOwn {own : List Loc} {g : Bool} {dst : Option Nat} {l : Loc} : l ∈ putOwn own g dst ↔ (∃ s, dst = some s ∧ l = .slot s ∧ g = true) ∨ (l ∈ own ∧ ∀ s, dst = some s → l ≠ .slot s) := by
  cases dst with
  | none => simp [putOwn]
  | some d =>
    cases g with
    | true =>
      show l ∈ give own _ ↔ _
      rw [mem_give]
      constructor
      · rintro (h | ⟨h1, h2⟩)
        · exact .inl ⟨d, rfl, h, rfl⟩
        · exact .inr ⟨h1, fun s e => by injection e with e; subst e; exact h2⟩
      · rintro (⟨s, e, h, _⟩ | ⟨h1, h2⟩)
        · injection e with e; subst e; exact .inl h
        · exact .inr ⟨h1, h2 d rfl⟩
    | false =>
      show l ∈ drop own _ ↔ _
      rw [mem_drop]
      constructor
      · rintro ⟨h1, h2⟩
        exact .inr ⟨h1, fun s e => by injection e with e; subst e; exact h2⟩
      · rintro (⟨s, e, h, q⟩ | ⟨h1, h2⟩)
        · cases q
        · exact ⟨h1, h2 d rfl⟩
theorem look_putEnv {env : List (Nat × AV)} {dst : Option Nat} {v : AV} (s : Nat) : look (putEnv env dst v) s = if dst = some s then v else look env s := by
  cases dst with
  | none => simp [putEnv]
  | some d =>
    simp only [putEnv, look_cons]
    by_cases h : s = d
    · subst h; simp
    · rw [if_neg h, if_neg (by intro e; injection e with e; exact h e.symm)]

/-- Two operations that have nothing to do with each other. -/
structure Unord (ops : List Oper) (lt : Option WS) (mx : Bool) (x i : Oper) : Prop where
  r1 : ∀ d, x.dst = some d → d ∉ reads ops i ∧ i.dst ≠ some d
  r2 : ∀ d, i.dst = some d → d ∉ reads ops x
  e : ends ops x = false ∨ ends ops i = false ∨ mvCall x i = true ∨ (mx = true ∧ ((isCallV x = true ∧ mixAt ops x = true ∧ isLd i = true) ∨ (isLd x = true ∧ isCallV i = true ∧ mixAt ops i = true)))
  h1 : heapOp x = true → (isCallV x = true ∧ ∃ t s q, i.op = .load t (.tmp s) ∧ q ∈ bSlots ops i ∧ q ∈ wSlots ops x) ∨ memOp i = false ∨ ((∃ ws, lt = some ws) ∧ isStore x = true ∧ (isLoad i = true ∧ lateD ops i.dst = true ∧ ∀ s, stSlot x = some s → lateP ops i.dst s = true)) ∨ ((mx = true ∧ mixAt ops x = true) ∧ isCallV x = true ∧ (isLoad i = true ∨ allocOp i = true))
  h2 : heapOp i = true → (isCallV i = true ∧ ∃ t s q, x.op = .load t (.tmp s) ∧ q ∈ bSlots ops x ∧ q ∈ wSlots ops i) ∨ memOp x = false ∨ ((∃ ws, lt = some ws) ∧ isStore i = true ∧ (isLoad x = true ∧ lateD ops x.dst = true ∧ ∀ s, stSlot i = some s → lateP ops x.dst s = true)) ∨ ((mx = true ∧ mixAt ops i = true) ∧ isCallV i = true ∧ isLoad x = true)

structure EqSt (s t : St) : Prop where
  env : ∀ k, look s.env k = look t.env k
  H : s.H = t.H
  own : ∀ l, l ∈ s.own ↔ l ∈ t.own

theorem memOp_parts {o : Oper} (h : memOp o = false) : heapOp o = false ∧ allocOp o = false ∧ ∀ t a, o.op ≠ .load t a := by
  unfold memOp at h
  rw [Bool.or_eq_false_iff, Bool.or_eq_false_iff] at h
  refine ⟨h.1.1, ?_, ?_⟩
  · have h2 := h.2
    split at h2
    · cases h2
    · exact h2
  · intro t a e; rw [e] at h; exact absurd h.2 (by simp)
theorem noAsks {env : List (Nat × AV)} {o : Oper} {id : Nat} (h : memOp o = false) : ¬ Asks env o id := by
  rintro (⟨t, a, off, e, _⟩ | ⟨hm, _⟩)
  · exact (memOp_parts h).2.2 t a e
  · unfold memOp at h
    rw [hm] at h
    simp at h
theorem asks_env {env env' : List (Nat × AV)} {o : Oper} {id : Nat} (h : ∀ s ∈ opSlots o, look env s = look env' s) : Asks env o id ↔ Asks env' o id := by
  have hx : ∀ x ∈ o.op.operands.toList, evalO env x = evalO env' x := fun x hm => evalO_env fun s e => h s (by unfold opSlots; exact List.mem_filterMap.2 ⟨x, hm, by rw [e]⟩)
  unfold Asks
  constructor
  · rintro (⟨t, a, off, e1, e2⟩ | ⟨e1, x, a, e2, e3, e4⟩)
    · exact .inl ⟨t, a, off, e1, by rw [← hx a (by rw [e1]; simp [Op.operands])]; exact e2⟩
    · exact .inr ⟨e1, x, a, e2, by rw [← hx x (List.mem_of_mem_head? e2)]; exact e3, e4⟩
  · rintro (⟨t, a, off, e1, e2⟩ | ⟨e1, x, a, e2, e3, e4⟩)
    · exact .inl ⟨t, a, off, e1, by rw [hx a (by rw [e1]; simp [Op.operands])]; exact e2⟩
    · exact .inr ⟨e1, x, a, e2, by rw [hx x (List.mem_of_mem_head? e2)]; exact e3, e4⟩
theorem callV_map {o : Oper} (h : isCallV o = true) : isMapO o = false := by
  obtain ⟨dst, op, ty, pos, after, guard⟩ := o
  unfold isCallV at h
  split at h
  · rename_i e; simp only at e; subst e; rfl
  · rename_i e; simp only at e; subst e; rfl
  · cases h
theorem alloc_mem {o : Oper} (h : allocOp o = true) : memOp o = true := by
  cases hm : memOp o with
  | true => rfl
  | false => rw [(memOp_parts hm).2.1] at h; cases h

theorem callV_parts {ops : List Oper} {o : Oper} (h : isCallV o = true) : allocOp o = false ∧ slElem P o = none ∧ ∀ b ws env, lateOk ops b ws o env = true := by
  obtain ⟨dst, op, ty, pos, after, guard⟩ := o
  unfold isCallV at h
  simp only at h
  split at h
  · exact ⟨rfl, rfl, fun _ _ _ => rfl⟩
  · exact ⟨rfl, rfl, fun _ _ _ => rfl⟩
  · cases h
theorem core_call (hl : FullLock call) {env : List (Nat × AV)} {H : List (Option Blk)} {own : List Loc} {o : Oper} {r : Res} (hc : isCallV o = true) (h : core call P ops o env H own = some r) : Lock H.length H r.H := by
  have key : ∀ f args, callA call P H own f args = some r → Lock H.length H r.H := by
    intro f args h
    unfold callA at h
    cases hb : hasBody P f with
    | false => rw [hb] at h; cases h
    | true =>
      rw [hb] at h
      simp only [cond_true] at h
      split at h
      · rename_i x H' own' hq
        injection h with h; subst h
        exact hl f args H _ x H' own' hq
      · cases h
  obtain ⟨dst, op, ty, pos, after, guard⟩ := o
  unfold isCallV at hc
  simp only at hc
  split at hc
  · unfold core at h
    simp only at h
    split at h
    · exact key _ _ h
    · exact key _ _ h
    · cases h
  · unfold core at h
    simp only at h
    split at h
    · split at h
      · exact key _ _ h
      · cases h
    · cases h
  · cases hc
theorem core_callLen (hl : CallLen call) {env : List (Nat × AV)} {H : List (Option Blk)} {own : List Loc} {o : Oper} {r : Res} (hc : isCallV o = true) (h : core call P ops o env H own = some r) : H.length ≤ r.H.length := by
  have key : ∀ f args, callA call P H own f args = some r → H.length ≤ r.H.length := by
    intro f args h
    unfold callA at h
    cases hb : hasBody P f with
    | false => rw [hb] at h; cases h
    | true =>
      rw [hb] at h
      simp only [cond_true] at h
      split at h
      · rename_i x H' own' hq
        injection h with h; subst h
        exact hl f args H _ x H' own' hq
      · cases h
  obtain ⟨dst, op, ty, pos, after, guard⟩ := o
  unfold isCallV at hc
  simp only at hc
  split at hc
  · unfold core at h
    simp only at h
    split at h
    · exact key _ _ h
    · exact key _ _ h
    · cases h
  · unfold core at h
    simp only at h
    split at h
    · split at h
      · exact key _ _ h
      · cases h
    · cases h
  · cases hc
theorem coreW_call (hl : FullLock call) (hf : CallFill call) {env : List (Nat × AV)} {H : List (Option Blk)} {own : List Loc} {o : Oper} {r : Res} (hc : isCallV o = true) (h : coreW call P (some (base, lt)) ops o env H own = some r) :
    Lock H.length H r.H ∧ ∀ p k, H[p]? = some none → coreW call P (some (base, lt)) ops o env (H.set p (some k)) own = some { r with H := r.H.set p (some k) } := by
  obtain ⟨c1, c2, c3⟩ := callV_parts (P := P) (ops := ops) hc
  have hP : ∀ H' own', coreP call P (some (base, lt)) ops o env H' own' = core call P ops o env H' own' := by
    intro H' own'
    unfold coreP coreS
    have c4 : lateNo base lt ops o env = false := by cases lt with | none => rfl | some ws => (show (!(lateOk ops base ws o env)) = false; rw [c3]; rfl)
    simp only [c1, c2, c4, callV_map hc, cond_false]
  unfold coreW at h ⊢
  split at h
  · rw [hP] at h
    refine ⟨core_call hl hc h, fun p k hp => ?_⟩
    rw [hP]
    exact (core_fill hf h hp k).2
  · injection h with h; subst h
    exact ⟨Lock.refl _ _, fun p k hp => rfl⟩
  · cases h
theorem rank_lt : ∀ (l : List Oper) {d q : Nat}, rank l d = some q → q < allocs l
  | [], d, q, h => by cases h
  | o :: l, d, q, h => by
    unfold rank at h
    unfold allocs
    cases ha : allocOp o with
    | true =>
      rw [ha] at h
      rw [List.filter_cons_of_pos ha]
      simp only [cond_true] at h
      cases hd : (o.dst == some d) with
      | true =>
        rw [hd] at h
        injection h with h; subst h
        simp
      | false =>
        rw [hd] at h
        simp only [cond_false] at h
        cases hr : rank l d with
        | none => rw [hr] at h; cases h
        | some q' =>
          rw [hr] at h
          simp only [Option.map_some, Option.some.injEq] at h
          have := rank_lt l hr
          unfold allocs at this
          rw [List.length_cons]; omega
    | false =>
      rw [ha] at h
      rw [List.filter_cons_of_neg (by rw [ha]; simp)]
      exact rank_lt l h
theorem put_len {nt : Nat} {r : Res} {env : List (Nat × AV)} {dst : Option Nat} {st' : St} (h : r.put nt env dst = some st') : st'.H = r.H := (put_fill h (p := 0) ⟨0, []⟩).1
theorem stepW_len (hl : CallLen call) {o : Oper} {st st' : St} (h : stepW call P nt (some (base, lt)) ops o st = some st') : st.H.length ≤ st'.H.length := by
  obtain ⟨r, hc, hp⟩ := stepW_iff.1 h
  rw [put_len hp]
  unfold coreW at hc
  split at hc
  · unfold coreP at hc
    simp only at hc
    cases ha : allocOp o with
    | true =>
      rw [ha] at hc
      simp only [cond_true] at hc
      split at hc
      · split at hc
        · obtain ⟨_, k, _, rfl, _⟩ := newAt_cases hc
          exact Nat.le_of_eq List.length_set.symm
        · cases hc
      · cases hc
    | false =>
      rw [ha] at hc
      simp only [cond_false] at hc
      cases hq : (lateNo base lt ops o st.env) with
      | true => rw [hq] at hc; cases hc
      | false =>
        rw [hq] at hc
        simp only [cond_false] at hc
        unfold coreS at hc
        split at hc
        · cases hk : okSl call.lo o.op st.env with
          | false => rw [hk] at hc; cases hc
          | true => rw [hk] at hc; exact (newSl_lock (lo := 0) (by
              unfold okSl
              split
              · split
                · split
                  · exact Nat.ble_eq.mpr (Nat.zero_le _)
                  · rfl
                · rfl
              · rfl) hc (Nat.zero_le _)).1
        · cases hm : isMapO o with
          | true => rw [hm] at hc; exact coreM_len hc
          | false =>
          rw [hm, cond_false] at hc
          cases hh : heapC o with
          | false => rw [(core_heapC hh ha hc).1]; exact Nat.le_refl _
          | true =>
            rcases heapC_cases hh with ⟨t, a, x, e1⟩ | ⟨f, args, at_, e1⟩ | ⟨rv, nm, args, at_, e1⟩
            · unfold core at hc
              rw [e1] at hc
              simp only at hc
              split at hc
              · split at hc
                · rename_i H' hs
                  injection hc with hc; subst hc
                  obtain ⟨h1, h2⟩ := storeL_some hs
                  unfold storeA at h2
                  split at h2
                  · split at h2
                    · split at h2
                      · injection h2 with h2; subst h2; exact Nat.le_of_eq List.length_set.symm
                      · cases h2
                    · cases h2
                  · cases h2
                · cases hc
              · cases hc
            · exact core_callLen hl (by unfold isCallV; rw [e1]) hc
            · exact core_callLen hl (by unfold isCallV; rw [e1]) hc
  · injection hc with hc; subst hc; exact Nat.le_refl _
  · cases hc
theorem callV_callA {env : List (Nat × AV)} {H : List (Option Blk)} {own : List Loc} {o : Oper} {r : Res} (hv : isCallV o = true) (h : core call P ops o env H own = some r) : ∃ f args, ∀ own', core call P ops o env H own' = callA call P H own' f args := by
  obtain ⟨dst, op, ty, pos, after, guard⟩ := o
  unfold isCallV at hv
  split at hv
  · rename_i f args at_ e
    simp only at e; subst e
    simp only [core] at h ⊢
    split at h
    · rename_i g cap vs h1 h2
      exact ⟨g, vs ++ cap, fun own' => by simp only [h1, h2]⟩
    · rename_i g bs cap vs h1 h2
      exact ⟨g, bs ++ vs ++ cap, fun own' => by simp only [h1, h2]⟩
    · cases h
  · rename_i rv name args at_ e
    simp only at e; subst e
    simp only [core] at h ⊢
    split at h
    · rename_i t v vs h1 h2
      split at h
      · rename_i f x h3
        exact ⟨f, x :: vs, fun own' => by simp only [h1, h2, h3]⟩
      · cases h
    · cases h
  · cases hv
theorem callA_frame {H : List (Option Blk)} {own own' : List Loc} {f : FuncId} {args : List AV} {r : Res} (hl : ∀ i o, Loc.cell i o ∈ own ↔ Loc.cell i o ∈ own') (h : callA call P H own f args = some r) :
    r.gives = false ∧ ∃ oo, callA call P H own' f args = some ⟨r.val, r.H, oo, r.gives⟩ ∧ (∀ s, Loc.slot s ∈ r.own ↔ Loc.slot s ∈ own) ∧ (∀ s, Loc.slot s ∈ oo ↔ Loc.slot s ∈ own') ∧ ∀ i o, Loc.cell i o ∈ oo ↔ Loc.cell i o ∈ r.own := by
  unfold callA at h ⊢
  cases hb : hasBody P f with
  | false => rw [hb] at h; cases h
  | true =>
    rw [hb] at h
    simp only [cond_true] at h ⊢
    have hcan : canon (own.filter Loc.isCell) = canon (own'.filter Loc.isCell) := by
      refine canon_ext fun x => ?_
      rw [List.mem_filter, List.mem_filter]
      cases x with
      | slot s => simp [Loc.isCell]
      | cell id off => rw [hl id off]
    rw [← hcan]
    split at h
    · rename_i x H' own1 hcl
      injection h with h; subst h
      refine ⟨rfl, _, rfl, fun s => ?_, fun s => ?_, fun i o => ?_⟩
      · simp only [List.mem_append, List.mem_filter]; simp [Loc.isCell]
      · simp only [List.mem_append, List.mem_filter]; simp [Loc.isCell]
      · simp only [List.mem_append, List.mem_filter]; simp [Loc.isCell]
    · cases h
theorem coreW_callFrame {env : List (Nat × AV)} {H : List (Option Blk)} {own own' : List Loc} {o : Oper} {r : Res} (hv : isCallV o = true) (hl : ∀ i o, Loc.cell i o ∈ own ↔ Loc.cell i o ∈ own') (h : coreW call P (some (base, lt)) ops o env H own = some r) :
    r.gives = false ∧ ∃ oo, coreW call P (some (base, lt)) ops o env H own' = some ⟨r.val, r.H, oo, r.gives⟩ ∧ (∀ s, Loc.slot s ∈ r.own ↔ Loc.slot s ∈ own) ∧ (∀ s, Loc.slot s ∈ oo ↔ Loc.slot s ∈ own') ∧ ∀ i o, Loc.cell i o ∈ oo ↔ Loc.cell i o ∈ r.own := by
  obtain ⟨p1, p2, p3⟩ := callV_parts (P := P) (ops := ops) hv
  unfold coreW at h ⊢
  cases hw : wantedA ops env o with
  | none => rw [hw] at h; cases h
  | some b =>
    rw [hw] at h
    cases b with
    | false =>
      injection h with h; subst h
      exact ⟨rfl, own', rfl, fun s => Iff.rfl, fun s => Iff.rfl, fun i o => (hl i o).symm⟩
    | true =>
      simp only at h ⊢
      have hlt : lateNo base lt ops o env = false := by
        unfold lateNo
        cases lt with
        | none => rfl
        | some ws => simp only [p3 base ws env, Bool.not_true]
      have hcp : ∀ q, coreP call P (some (base, lt)) ops o env H q = core call P ops o env H q := by
        intro q
        unfold coreP coreS
        simp only [p1, cond_false, hlt, p2, callV_map hv]
      rw [hcp] at h ⊢
      obtain ⟨f, args, hca⟩ := callV_callA hv h
      rw [hca] at h ⊢
      exact callA_frame hl h
theorem coreW_mvFrame {env : List (Nat × AV)} {H : List (Option Blk)} {own : List Loc} {o : Oper} {r : Res} (hv : isMv o = true) (h : coreW call P (some (base, lt)) ops o env H own = some r) :
    ∃ v m, v ∈ reads ops o ∧ r.H = H ∧ r.gives = m ∧ (∀ l, l ∈ r.own ↔ l ∈ own ∧ (m = true → l ≠ .slot v)) ∧ ∀ H' own', (Loc.slot v ∈ own' ↔ Loc.slot v ∈ own) → ∃ oo, coreW call P (some (base, lt)) ops o env H' own' = some ⟨r.val, H', oo, m⟩ ∧ ∀ l, l ∈ oo ↔ l ∈ own' ∧ (m = true → l ≠ .slot v) := by
  obtain ⟨dst, op, ty, pos, after, guard⟩ := o
  unfold isMv at hv
  split at hv
  case h_2 => cases hv
  rename_i v e
  simp only at e; subst e
  refine ⟨v, ?_⟩
  have hmem : v ∈ reads ops { dst := dst, op := .move (.tmp v), type := ty, pos := pos, after := after, guard := guard } := by
    unfold reads opSlots
    exact List.mem_append_right _ (List.mem_filterMap.2 ⟨.tmp v, by simp [Op.operands], rfl⟩)
  unfold coreW at h ⊢
  cases hw : wantedA ops env { dst := dst, op := .move (.tmp v), type := ty, pos := pos, after := after, guard := guard } with
  | none => rw [hw] at h; cases h
  | some b =>
    rw [hw] at h
    cases b with
    | false =>
      injection h with h; subst h
      exact ⟨false, hmem, rfl, rfl, fun l => ⟨fun h => ⟨h, fun e => by cases e⟩, fun h => h.1⟩, fun H' own' _ => ⟨own', rfl, fun l => ⟨fun h => ⟨h, fun e => by cases e⟩, fun h => h.1⟩⟩⟩
    | true =>
      simp only at h ⊢
      have hlt : lateNo base lt ops { dst := dst, op := .move (.tmp v), type := ty, pos := pos, after := after, guard := guard } env = false := by
        unfold lateNo
        cases lt with
        | none => rfl
        | some ws => rfl
      have hcp : ∀ q Hq, coreP call P (some (base, lt)) ops { dst := dst, op := .move (.tmp v), type := ty, pos := pos, after := after, guard := guard } env Hq q = some (cond (owns q (.slot v) && appDst ops dst) ⟨look env v, Hq, drop q (.slot v), true⟩ ⟨look env v, Hq, q, false⟩) := by
        intro q Hq
        unfold coreP coreS
        simp only [allocOp, cond_false, hlt, slElem, slTy, core, isMapO, isMapW, isMapR, Bool.or_false]
      rw [hcp] at h
      simp only [hcp]
      injection h with h
      refine ⟨owns own (.slot v) && appDst ops dst, hmem, ?_, ?_, ?_, ?_⟩
      · rw [← h]; cases (owns own (.slot v) && appDst ops dst) <;> rfl
      · rw [← h]; cases (owns own (.slot v) && appDst ops dst) <;> rfl
      · intro l
        rw [← h]
        cases (owns own (.slot v) && appDst ops dst) with
        | false => exact ⟨fun h => ⟨h, fun e => by cases e⟩, fun h => h.1⟩
        | true => show l ∈ drop own (.slot v) ↔ _; rw [mem_drop]; exact ⟨fun h => ⟨h.1, fun _ => h.2⟩, fun h => ⟨h.1, h.2 rfl⟩⟩
      · intro H' own' hs
        have hs' : owns own' (.slot v) = owns own (.slot v) := by rw [Bool.eq_iff_iff, owns_iff, owns_iff]; exact hs
        rw [hs', ← h]
        cases (owns own (.slot v) && appDst ops dst) with
        | false => exact ⟨own', rfl, fun l => ⟨fun h => ⟨h, fun e => by cases e⟩, fun h => h.1⟩⟩
        | true => exact ⟨drop own' (.slot v), rfl, fun l => by rw [mem_drop]; exact ⟨fun h => ⟨h.1, fun _ => h.2⟩, fun h => ⟨h.1, h.2 rfl⟩⟩⟩

theorem callV_heap {o : Oper} (h : isCallV o = true) : heapOp o = true ∧ allocOp o = false := by
  obtain ⟨dst, op, ty, pos, after, guard⟩ := o
  unfold isCallV at h
  split at h
  · rename_i e; simp only at e; subst e; exact ⟨rfl, rfl⟩
  · rename_i e; simp only at e; subst e; exact ⟨rfl, rfl⟩
  · cases h
theorem wslot_reads {o : Oper} {s : Nat} (h : s ∈ wSlots ops o) : s ∈ reads ops o := by
  unfold reads
  exact List.mem_append_left _ (List.mem_append_right _ (List.mem_append_left _ h))
theorem bslot_reads {o : Oper} {s : Nat} (h : s ∈ bSlots ops o ∨ s ∈ opSlots o) : s ∈ reads ops o := by
  unfold reads
  rcases h with h | h
  · exact List.mem_append_left _ (List.mem_append_right _ (List.mem_append_right _ h))
  · exact List.mem_append_right _ h
theorem wbslot_reads {o : Oper} {s : Nat} (h : s ∈ wSlots ops o ∨ s ∈ bSlots ops o ∨ s ∈ opSlots o) : s ∈ reads ops o := h.elim wslot_reads bslot_reads
theorem wslot_call {o : Oper} (h : wSlots ops o ≠ []) : isCallV o = true := by
  cases hc : isCallV o with
  | true => rfl
  | false => unfold wSlots at h; rw [hc] at h; exact absurd rfl h
theorem ask_slot {env : List (Nat × AV)} {o : Oper} {t : TypeId} {s id : Nat} (ho : o.op = .load t (.tmp s)) (h : Asks env o id) : ∃ off, look env s = .ptr id off := by
  rcases h with ⟨t', a, off, e1, e2⟩ | ⟨hm, _⟩
  · rw [ho] at e1
    injection e1 with _ e1
    subst e1
    simp only [evalO, Option.some.injEq] at e2
    exact ⟨off, e2⟩
  · unfold isMapR at hm
    rw [ho] at hm
    cases hm
theorem newC_cell {n : Nat} {l : Loc} (h : newC n l = true) : ∃ i o, l = .cell i o ∧ n ≤ i := by
  cases l with
  | slot s => cases h
  | cell i o => exact ⟨i, o, rfl, Nat.ble_eq.mp h⟩
theorem callA_own (ho : CallOwn call) {H : List (Option Blk)} {own : List Loc} {f : FuncId} {args : List AV} {r : Res} (h : callA call P H own f args = some r) :
    r.gives = false ∧ ∃ n : List Loc, (∀ l ∈ n, newC H.length l = true) ∧ (∀ l, l ∈ r.own ↔ l ∈ own ∨ l ∈ n) ∧ ∀ own', ∃ oo, callA call P H own' f args = some ⟨r.val, r.H, oo, false⟩ ∧ ∀ l, l ∈ oo ↔ l ∈ own' ∨ l ∈ n := by
  unfold callA at h ⊢
  cases hb : hasBody P f with
  | false => rw [hb] at h; cases h
  | true =>
    rw [hb] at h
    simp only [cond_true] at h ⊢
    split at h
    case h_2 => cases h
    rename_i x H' own1 hcl
    injection h with h; subst h
    obtain ⟨n, n1, n2, n3⟩ := ho f args H _ x H' own1 hcl
    have mem : ∀ (q : List Loc) (l : Loc), l ∈ q.filter (fun l => !l.isCell) ++ (canon (q.filter Loc.isCell) ++ n).filter Loc.isCell ↔ l ∈ q ∨ l ∈ n := by
      intro q l
      rw [List.mem_append, List.mem_filter, List.mem_filter, List.mem_append, mem_canon, List.mem_filter]
      have hn : l ∈ n → l.isCell = true := fun h => by obtain ⟨i, o, rfl, _⟩ := newC_cell (n1 l h); rfl
      cases hc : l.isCell with
      | true => simp
      | false =>
        simp
        intro h
        rw [hn h] at hc; cases hc
    refine ⟨rfl, n, n1, fun l => by rw [n2]; exact mem own l, fun own' => ⟨_, by rw [n3], fun l => mem own' l⟩⟩
theorem coreW_callOwn (ho : CallOwn call) {env : List (Nat × AV)} {H : List (Option Blk)} {own : List Loc} {o : Oper} {r : Res} (hv : isCallV o = true) (h : coreW call P (some (base, lt)) ops o env H own = some r) :
    r.gives = false ∧ ∃ n : List Loc, (∀ l ∈ n, newC H.length l = true) ∧ (∀ l, l ∈ r.own ↔ l ∈ own ∨ l ∈ n) ∧ ∀ own', ∃ oo, coreW call P (some (base, lt)) ops o env H own' = some ⟨r.val, r.H, oo, false⟩ ∧ ∀ l, l ∈ oo ↔ l ∈ own' ∨ l ∈ n := by
  obtain ⟨p1, p2, p3⟩ := callV_parts (P := P) (ops := ops) hv
  unfold coreW at h ⊢
  cases hw : wantedA ops env o with
  | none => rw [hw] at h; cases h
  | some b =>
    rw [hw] at h
    cases b with
    | false =>
      injection h with h; subst h
      exact ⟨rfl, [], fun l h => (by cases h), fun l => by simp, fun own' => ⟨own', rfl, fun l => by simp⟩⟩
    | true =>
      simp only at h ⊢
      have hlt : lateNo base lt ops o env = false := by
        unfold lateNo
        cases lt with
        | none => rfl
        | some ws => simp only [p3 base ws env, Bool.not_true]
      have hcp : ∀ q, coreP call P (some (base, lt)) ops o env H q = core call P ops o env H q := by
        intro q
        unfold coreP coreS
        simp only [p1, cond_false, hlt, p2, callV_map hv]
      rw [hcp] at h
      obtain ⟨f, args, hca⟩ := callV_callA hv h
      rw [hca] at h
      obtain ⟨q1, n, q2, q3, q4⟩ := callA_own ho h
      refine ⟨q1, n, q2, q3, fun own' => ?_⟩
      obtain ⟨oo, w1, w2⟩ := q4 own'
      exact ⟨oo, by rw [hcp, hca]; exact w1, w2⟩
/-- The cell that is loaded. -/
def ldV (ops : List Oper) (env : List (Nat × AV)) (o : Oper) : Option Loc :=
  match wantedA ops env o, o.op with
  | some true, .load _ a => match evalO env a with
    | some (.ptr id off) => some (.cell id off)
    | _ => none
  | _, _ => none
/-- What a load does to the ends: it may take that of the cell, whose block is there. -/
theorem coreW_ldFrame {env : List (Nat × AV)} {H : List (Option Blk)} {own : List Loc} {o : Oper} {r : Res} (hv : isLd o = true) (h : coreW call P (some (base, lt)) ops o env H own = some r) :
    ∃ (m : Bool), (∀ q, ldV ops env o = some q → newC H.length q = false ∧ q.isCell = true) ∧ r.H = H ∧ r.gives = m ∧ (∀ l, l ∈ r.own ↔ l ∈ own ∧ (m = true → ldV ops env o ≠ some l)) ∧
      ∀ own', (∀ q, ldV ops env o = some q → (q ∈ own' ↔ q ∈ own)) → ∃ oo, coreW call P (some (base, lt)) ops o env H own' = some ⟨r.val, H, oo, m⟩ ∧ ∀ l, l ∈ oo ↔ l ∈ own' ∧ (m = true → ldV ops env o ≠ some l) := by
  obtain ⟨dst, op, ty, pos, after, guard⟩ := o
  unfold isLd at hv
  split at hv
  case h_2 => cases hv
  rename_i t a e
  simp only at e; subst e
  have triv : ∀ (q : List Loc) l, l ∈ q ↔ l ∈ q ∧ (false = true → (none : Option Loc) ≠ some l) := fun q l => ⟨fun h => ⟨h, fun e => by cases e⟩, fun h => h.1⟩
  unfold coreW at h ⊢
  cases hw : wantedA ops env { dst := dst, op := .load t a, type := ty, pos := pos, after := after, guard := guard } with
  | none => rw [hw] at h; cases h
  | some b =>
    rw [hw] at h
    cases b with
    | false =>
      injection h with h; subst h
      have hv : ldV ops env { dst := dst, op := .load t a, type := ty, pos := pos, after := after, guard := guard } = none := by unfold ldV; rw [hw]
      rw [hv]
      exact ⟨false, fun q e => (by cases e), rfl, rfl, triv own, fun own' _ => ⟨own', rfl, triv own'⟩⟩
    | true =>
      simp only at h ⊢
      cases hl : lateNo base lt ops { dst := dst, op := .load t a, type := ty, pos := pos, after := after, guard := guard } env with
      | true =>
        unfold coreP at h
        simp only [allocOp, cond_false, hl, cond_true] at h
        cases h
      | false =>
      have hcp : ∀ q, coreP call P (some (base, lt)) ops { dst := dst, op := .load t a, type := ty, pos := pos, after := after, guard := guard } env H q = core call P ops { dst := dst, op := .load t a, type := ty, pos := pos, after := after, guard := guard } env H q := by
        intro q
        unfold coreP coreS
        simp only [allocOp, cond_false, hl, slElem, slTy, isMapO, isMapW, isMapR, Bool.or_false]
      rw [hcp] at h
      simp only [hcp]
      have hlive : ∀ id off, evalO env a = some (.ptr id off) → id < H.length := fun id off e => (core_load_live (o := { dst := dst, op := .load t a, type := ty, pos := pos, after := after, guard := guard }) rfl e h).lt
      simp only [core] at h ⊢
      split at h
      case h_2 => cases h
      rename_i p hp
      split at h
      case h_2 => cases h
      rename_i x hx
      split at h
      · rename_i id off
        injection h with h
        have hid := hlive id off hp
        have hv : ldV ops env { dst := dst, op := .load t a, type := ty, pos := pos, after := after, guard := guard } = some (.cell id off) := by unfold ldV; rw [hw]; simp only [hp]
        rw [hv]
        refine ⟨owns own (.cell id off) && appDst ops dst && (sizeT P t == some 1) && (isAggT P t == some false), fun q e => ?_, ?_, ?_, fun l => ?_, fun own' hq => ?_⟩
        · injection e with e; subst e
          refine ⟨?_, rfl⟩
          show Nat.ble H.length id = false
          cases hb : Nat.ble H.length id with
          | false => rfl
          | true => have := Nat.ble_eq.mp hb; omega
        · rw [← h]; cases (owns own (.cell id off) && appDst ops dst && (sizeT P t == some 1) && (isAggT P t == some false)) <;> rfl
        · rw [← h]; cases (owns own (.cell id off) && appDst ops dst && (sizeT P t == some 1) && (isAggT P t == some false)) <;> rfl
        · rw [← h]
          cases (owns own (.cell id off) && appDst ops dst && (sizeT P t == some 1) && (isAggT P t == some false)) with
          | false => exact ⟨fun h => ⟨h, fun e => by cases e⟩, fun h => h.1⟩
          | true => show l ∈ drop own (.cell id off) ↔ _; rw [mem_drop]; exact ⟨fun h => ⟨h.1, fun _ e => by injection e with e; exact h.2 e.symm⟩, fun h => ⟨h.1, fun e => h.2 rfl (by rw [e])⟩⟩
        · have hs' : owns own' (.cell id off) = owns own (.cell id off) := by rw [Bool.eq_iff_iff, owns_iff, owns_iff]; exact hq _ rfl
          rw [hs', ← h]
          cases (owns own (.cell id off) && appDst ops dst && (sizeT P t == some 1) && (isAggT P t == some false)) with
          | false => exact ⟨own', rfl, fun l => ⟨fun h => ⟨h, fun e => by cases e⟩, fun h => h.1⟩⟩
          | true => exact ⟨drop own' (.cell id off), rfl, fun l => by rw [mem_drop]; exact ⟨fun h => ⟨h.1, fun _ e => by injection e with e; exact h.2 e.symm⟩, fun h => ⟨h.1, fun e => h.2 rfl (by rw [e])⟩⟩⟩
      · rename_i hne
        injection h with h; subst h
        have hv : ldV ops env { dst := dst, op := .load t a, type := ty, pos := pos, after := after, guard := guard } = none := by
          unfold ldV; rw [hw]; simp only [hp]
          split
          · rename_i id off e; injection e with e; exact absurd e (hne id off)
          · rfl
        rw [hv]
        refine ⟨false, fun q e => (by cases e), rfl, rfl, triv own, fun own' _ => ⟨own', rfl, triv own'⟩⟩

theorem swap {c : Oper → CallA} {x i : Oper} {st st1 st2 : St} (hx : stepV (c x) P nt (some (base, lt)) ops x st = some st1) (hi : stepV (c i) P nt (some (base, lt)) ops i st1 = some st2) (u : Unord ops lt mx x i)
    (hmx : mx = true → (∀ o, mixAt ops o = true → FullLock (c o) ∧ CallFill (c o) ∧ CallOwn (c o)) ∧ ∀ o, CallLen (c o)) (hba : mx = true → base + allocs ops ≤ st.H.length)
    (hv : ∀ id, Asks st.env i id → Live st.H id) :
    ∃ s1 s2, stepV (c i) P nt (some (base, lt)) ops i st = some s1 ∧ stepV (c x) P nt (some (base, lt)) ops x s1 = some s2 ∧ EqSt s2 st2 := by
  obtain ⟨hx, hqx⟩ := stepV_some hx
  obtain ⟨hi, hqi⟩ := stepV_some hi
  obtain ⟨rx, hcx, hpx⟩ := stepW_iff.1 hx
  obtain ⟨ri, hci, hpi⟩ := stepW_iff.1 hi
  obtain ⟨hnx, rfl⟩ := put_iff.1 hpx
  obtain ⟨hni, rfl⟩ := put_iff.1 hpi
  simp only at hci ⊢
  have hqx : watchOk ops x st.env st.H rx.H = true := hqx
  have hqi : watchOk ops i (putEnv st.env x.dst rx.val) rx.H ri.H = true := hqi
  have henv : coreW (c i) P (some (base, lt)) ops i st.env rx.H (putOwn rx.own rx.gives x.dst) = some ri := by
    rw [← hci]
    apply coreW_env
    intro s hs
    rw [look_putEnv]
    rw [if_neg]
    intro e
    exact (u.r1 s e).1 hs
  -- the heap
  have hH : ∃ Hi, coreW (c i) P (some (base, lt)) ops i st.env st.H (putOwn rx.own rx.gives x.dst) = some ⟨ri.val, Hi, ri.own, ri.gives⟩ ∧ coreW (c x) P (some (base, lt)) ops x st.env Hi st.own = some ⟨rx.val, ri.H, rx.own, rx.gives⟩ ∧ (isCallV x = true → ∀ id, Live st.H id → Hi[id]? = st.H[id]? ∧ ri.H[id]? = rx.H[id]?) ∧ (isCallV i = true → ∀ id, Live rx.H id → st.H[id]? = rx.H[id]? ∧ Hi[id]? = ri.H[id]?) := by
    have load_low : ∀ {call : CallA} {o y : Oper} {H : List (Option Blk)} {own : List Loc} {r : Res} {id : Nat}, (isLoad o = true ∧ lateD ops o.dst = true ∧ ∀ s, stSlot y = some s → lateP ops o.dst s = true) → wantedA ops st.env o = some true → coreW call P (some (base, lt)) ops o st.env H own = some r → ∀ ws, lt = some ws → Asks st.env o id → (Nat.blt id base && !(ws.any fun p => stSlot y == some p.1 && Nat.beq id p.2)) = true := by
      rintro call o y H own r id ⟨hl, hld, hlp⟩ hw hc ws hlt hask
      have low : loadOk ops base ws o.dst id = true → (Nat.blt id base && !(ws.any fun p => stSlot y == some p.1 && Nat.beq id p.2)) = true := by
        intro h
        unfold loadOk at h
        rw [hld] at h
        simp only [Bool.not_true, Bool.false_or, Bool.and_eq_true, Bool.not_eq_true'] at h ⊢
        refine ⟨h.1, ?_⟩
        rw [List.any_eq_false] at h ⊢
        intro p hp hq
        simp only [Bool.and_eq_true] at hq
        refine h.2 p hp ?_
        rw [hlp p.1 (by simpa using hq.1), hq.2]; rfl
      obtain ⟨dst, op, ty, pos, after, guard⟩ := o
      unfold isLoad at hl
      split at hl
      · rename_i t a e
        simp only at e; subst e
        have := coreW_late hw hc hlt rfl
        rcases hask with ⟨t', a', off, e1, e2⟩ | ⟨hm, _⟩
        · injection e1 with _ e1; subst e1
          unfold lateOk at this
          simp only [e2] at this
          exact low this
        · cases hm
      · rename_i t x k ok e
        simp only at e; subst e
        have := coreW_late hw hc hlt rfl
        rcases hask with ⟨t', a', off, e1, e2⟩ | ⟨_, x', a, hx, e1, e2⟩
        · cases e1
        · have hxx : x = x' := by simpa [Op.operands] using hx
          subst hxx
          unfold mapAsk at e2
          split at e2
          · injection e2 with e2; subst e2
            unfold lateOk at this
            simp only [e1] at this
            exact low this
          · cases e2
      · cases hl
    have load_parts : ∀ {o : Oper}, isLoad o = true → heapOp o = false ∧ allocOp o = false := by
      intro o hl
      obtain ⟨dst, op, ty, pos, after, guard⟩ := o
      unfold isLoad at hl
      split at hl
      · rename_i e; simp only at e; subst e; exact ⟨rfl, rfl⟩
      · rename_i e; simp only at e; subst e; exact ⟨rfl, rfl⟩
      · cases hl
    by_cases hA : heapOp x = false ∧ allocOp x = false
    · obtain ⟨q1, q2⟩ := coreW_heap hA.1 hA.2 hcx
      rw [q1] at henv
      cases hwx : wantedA ops st.env x with
      | none => unfold coreW at hcx; rw [hwx] at hcx; cases hcx
      | some bx =>
      cases bx with
      | false =>
        have hcx' := hcx
        unfold coreW at hcx'
        rw [hwx] at hcx'
        injection hcx' with hcx'
        subst hcx'
        exact ⟨ri.H, henv, by unfold coreW; rw [hwx], fun hv => absurd (callV_heap hv).1 (by rw [hA.1]; simp), fun _ id _ => ⟨rfl, rfl⟩⟩
      | true =>
      refine ⟨ri.H, henv, q2 _ ?_, fun hv => absurd (callV_heap hv).1 (by rw [hA.1]; simp), fun _ id _ => ⟨by rw [q1], rfl⟩⟩
      intro id hask hlive
      cases hhi : heapOp i with
      | true =>
        rcases u.h2 hhi with ⟨_, t, s0, s, hop, hbs, hs⟩ | h | ⟨⟨ws, h1⟩, h2, h3⟩ | ⟨h1, h2, _⟩
        · obtain ⟨off0, hl0⟩ := ask_slot hop hask
          obtain ⟨off, hl⟩ := bOk_same (watch_b hqx) hop hbs hl0
          have := (watch_same hqi hs (by rw [look_putEnv, if_neg (fun e => (u.r1 s e).1 (wslot_reads hs))]; exact hl)).1
          rw [this, q1]
        · exact absurd hask (noAsks h)
        · exact (coreW_store h2 h1 henv).1 id (load_low h3 hwx hcx ws h1 hask)
        · exact (coreW_call ((hmx h1.1).1 i h1.2).1 ((hmx h1.1).1 i h1.2).2.1 h2 henv).1.2 id hlive.lt
      | false => exact live_step hhi henv hlive
    · by_cases hB : heapOp i = false ∧ allocOp i = false
      · obtain ⟨q1, q2⟩ := coreW_heap hB.1 hB.2 henv
        cases hwi0 : wantedA ops st.env i with
        | none => unfold coreW at henv; rw [hwi0] at henv; cases henv
        | some bi =>
        cases bi with
        | false =>
          have henv' := henv
          unfold coreW at henv'
          rw [hwi0] at henv'
          injection henv' with henv'
          subst henv'
          exact ⟨st.H, by unfold coreW; rw [hwi0], hcx, fun _ id _ => ⟨rfl, rfl⟩, fun hv => absurd (callV_heap hv).1 (by rw [hB.1]; simp)⟩
        | true =>
        refine ⟨st.H, q2 _ ?_, ?_, fun _ id _ => ⟨rfl, by rw [q1]⟩, fun hv => absurd (callV_heap hv).1 (by rw [hB.1]; simp)⟩
        · intro id hask _
          have hlive := hv id hask
          cases hhx : heapOp x with
          | true =>
            rcases u.h1 hhx with ⟨_, t, s0, s, hop, hbs, hs⟩ | h | ⟨⟨ws, h1⟩, h2, h3⟩ | ⟨h1, h2, _⟩
            · obtain ⟨off0, hl0⟩ := ask_slot hop hask
              have hb' := bOk_env (env' := st.env) (watch_b hqi) (fun q hq => by
                rw [look_putEnv, if_neg (fun e => (u.r1 q e).1 (bslot_reads hq))])
              obtain ⟨off, hl⟩ := bOk_same hb' hop hbs hl0
              exact (watch_same hqx hs hl).1.symm
            · exact absurd hask (noAsks h)
            · exact ((coreW_store h2 h1 hcx).1 id (load_low h3 hwi0 henv ws h1 hask)).symm
            · exact ((coreW_call ((hmx h1.1).1 x h1.2).1 ((hmx h1.1).1 x h1.2).2.1 h2 hcx).1.2 id hlive.lt).symm
          | false => exact (live_step hhx hcx hlive).symm
        · rw [q1]; exact hcx
      · by_cases hC : isCallV x = true ∧ (mx = true ∧ mixAt ops x = true) ∧ allocOp i = true
        · obtain ⟨hc1, hc2, hai⟩ := hC
          obtain ⟨l1, l2⟩ := coreW_call ((hmx hc2.1).1 x hc2.2).1 ((hmx hc2.1).1 x hc2.2).2.1 hc1 hcx
          rcases coreW_alloc hai henv with ⟨d', q', k', y1, y2, y3, y4, y5⟩ | ⟨y1, y2⟩
          · have hlt : base + q' < st.H.length := by have := rank_lt ops y2; have := hba hc2.1; omega
            have hhole : st.H[base + q']? = some none := by rw [← l1.2 _ hlt]; exact y3
            refine ⟨st.H.set (base + q') (some k'), y5 _ hhole, by rw [l2 _ k' hhole, y4], fun _ id hl => ?_, fun hv => absurd hai (by rw [(callV_heap hv).2]; simp)⟩
            have hne : base + q' ≠ id := by rintro rfl; obtain ⟨z, hz⟩ := hl; rw [hhole] at hz; cases hz
            exact ⟨List.getElem?_set_ne hne, by rw [y4]; exact List.getElem?_set_ne hne⟩
          · exact ⟨st.H, y2 _, by rw [y1]; exact hcx, fun _ id _ => ⟨rfl, by rw [y1]⟩, fun hv => absurd hai (by rw [(callV_heap hv).2]; simp)⟩
        -- both make a block
        have hax : allocOp x = true := by
          cases hhx : heapOp x with
          | true =>
            rcases u.h1 hhx with ⟨_, t, s, q, hop, _⟩ | h | ⟨_, _, h⟩ | ⟨h1, h2, h3 | h3⟩
            · exact absurd (load_parts (o := i) (by unfold isLoad; rw [hop])) hB
            · exact absurd ⟨(memOp_parts h).1, (memOp_parts h).2.1⟩ hB
            · exact absurd (load_parts h.1) hB
            · exact absurd (load_parts h3) hB
            · exact absurd ⟨h2, h1, h3⟩ hC
          | false =>
            cases h : allocOp x with
            | true => rfl
            | false => exact absurd ⟨hhx, h⟩ hA
        have hhi : heapOp i = false := by
          cases hhi : heapOp i with
          | false => rfl
          | true =>
            rcases u.h2 hhi with ⟨_, t, s, q, hop, _⟩ | h | ⟨_, _, h⟩ | ⟨_, _, h⟩
            · have := (load_parts (o := x) (by unfold isLoad; rw [hop])).2; rw [hax] at this; cases this
            · rw [alloc_mem hax] at h; cases h
            · have := (load_parts h.1).2; rw [hax] at this; cases this
            · have := (load_parts h).2; rw [hax] at this; cases this
        have hai : allocOp i = true := by
          cases h : allocOp i with
          | true => rfl
          | false => exact absurd ⟨hhi, h⟩ hB
        rcases coreW_alloc hax hcx with ⟨d, q, k, x1, x2, x3, x4, x5⟩ | ⟨x1, x2⟩
        · rcases coreW_alloc hai henv with ⟨d', q', k', y1, y2, y3, y4, y5⟩ | ⟨y1, y2⟩
          · have hne : base + q ≠ base + q' := by
              intro e
              have : q = q' := by omega
              subst this
              have := rank_inj ops x2 y2
              subst this
              exact (u.r1 d x1).2 y1
            rw [x4, List.getElem?_set_ne hne] at y3
            refine ⟨st.H.set (base + q') (some k'), y5 _ y3, ?_, fun hv => absurd hax (by rw [(callV_heap hv).2]; simp), fun hv => absurd hai (by rw [(callV_heap hv).2]; simp)⟩
            have := x5 (st.H.set (base + q') (some k')) (by rw [List.getElem?_set_ne hne.symm]; exact x3)
            rw [this, y4, x4, List.set_comm _ _ hne]
          · refine ⟨st.H, y2 _, ?_, fun hv => absurd hax (by rw [(callV_heap hv).2]; simp), fun hv => absurd hai (by rw [(callV_heap hv).2]; simp)⟩
            rw [y1]; exact hcx
        · rw [x1] at henv
          refine ⟨ri.H, henv, x2 _, fun hv => absurd hax (by rw [(callV_heap hv).2]; simp), fun hv => absurd hai (by rw [(callV_heap hv).2]; simp)⟩
  obtain ⟨Hi, f1, f2, f3, f4⟩ := hH
  -- the ends
  have hne : ∀ d, x.dst = some d → i.dst ≠ some d := fun d e => (u.r1 d e).2
  have hO : ∃ oi, coreW (c i) P (some (base, lt)) ops i st.env st.H st.own = some ⟨ri.val, Hi, oi, ri.gives⟩ ∧ ∃ ox, coreW (c x) P (some (base, lt)) ops x st.env Hi (putOwn oi ri.gives i.dst) = some ⟨rx.val, ri.H, ox, rx.gives⟩ ∧ ∀ l, l ∈ putOwn ox rx.gives x.dst ↔ l ∈ putOwn ri.own ri.gives i.dst := by
    by_cases hmc : mvCall x i = true
    · unfold mvCall at hmc
      rw [Bool.or_eq_true, Bool.and_eq_true, Bool.and_eq_true] at hmc
      have pc : ∀ (own : List Loc) (g : Bool) (dst : Option Nat) (a b : Nat), Loc.cell a b ∈ putOwn own g dst ↔ Loc.cell a b ∈ own := by
        intro own g dst a b
        rw [mem_putOwn]
        exact ⟨fun h => by rcases h with ⟨s, _, e, _⟩ | h; cases e; exact h.1, fun h => .inr ⟨h, fun s _ e => by cases e⟩⟩
      have ps : ∀ (own : List Loc) (g : Bool) (dst : Option Nat) (s : Nat), Loc.slot s ∈ putOwn own g dst ↔ (dst = some s ∧ g = true) ∨ (Loc.slot s ∈ own ∧ dst ≠ some s) := by
        intro own g dst s
        rw [mem_putOwn]
        constructor
        · rintro (⟨s', e1, e2, e3⟩ | ⟨e1, e2⟩)
          · injection e2 with e2; subst e2; exact .inl ⟨e1, e3⟩
          · exact .inr ⟨e1, fun e => e2 s e rfl⟩
        · rintro (⟨e1, e2⟩ | ⟨e1, e2⟩)
          · exact .inl ⟨s, e1, rfl, e2⟩
          · exact .inr ⟨e1, fun s' e e3 => by injection e3 with e3; subst e3; exact e2 e⟩
      rcases hmc with ⟨hx, hi⟩ | ⟨hx, hi⟩
      · obtain ⟨v, m, v1, v2, v3, v4, v5⟩ := coreW_mvFrame hx hcx
        obtain ⟨c1, oi, c2, c3, c4, c5⟩ := coreW_callFrame hi (own' := st.own) (fun a b => by rw [pc, v4]; exact ⟨fun h => h.1, fun h => ⟨h, fun _ e => by cases e⟩⟩) f1
        simp only at c1 c2 c3 c4 c5
        have hvd : i.dst ≠ some v := fun e => u.r2 v e v1
        obtain ⟨ox, d1, d2⟩ := v5 Hi (putOwn oi ri.gives i.dst) (by rw [ps, c4, c1]; exact ⟨fun h => by rcases h with ⟨e, _⟩ | h; exact absurd e hvd; exact h.1, fun h => .inr ⟨h, hvd⟩⟩)
        have hHi : Hi = ri.H := by
          have f3 := f2
          obtain ⟨_, _, _, w2, _, _, _⟩ := coreW_mvFrame hx f2
          exact w2.symm
        refine ⟨oi, c2, ox, by rw [d1, v3, hHi], ?_⟩
        intro l
        cases l with
        | cell a b => rw [pc, pc, d2, pc, c5]; exact ⟨fun h => h.1, fun h => ⟨h, fun _ e => by cases e⟩⟩
        | slot s =>
          rw [ps, ps, d2, ps, c4, c3, ps, v4, c1, v3]
          constructor
          · rintro (⟨e1, e2⟩ | ⟨⟨⟨_, e⟩ | ⟨e1, e2⟩, e3⟩, e4⟩)
            · exact .inr ⟨.inl ⟨e1, e2⟩, hne s e1⟩
            · cases e
            · exact .inr ⟨.inr ⟨⟨e1, e3⟩, e4⟩, e2⟩
          · rintro (⟨_, e⟩ | ⟨⟨e1, e2⟩ | ⟨⟨e1, e3⟩, e4⟩, e2⟩)
            · cases e
            · exact .inl ⟨e1, e2⟩
            · exact .inr ⟨⟨.inr ⟨e1, e2⟩, e3⟩, e4⟩
      · obtain ⟨v, m, v1, v2, v3, v4, v5⟩ := coreW_mvFrame hi f1
        simp only at v2 v3 v4
        obtain ⟨c1, oc, c2, c3, c4, c5⟩ := coreW_callFrame hx (own' := st.own) (fun a b => Iff.rfl) hcx
        have hvd : x.dst ≠ some v := fun e => (u.r1 v e).1 v1
        obtain ⟨oi, d1, d2⟩ := v5 st.H st.own (by rw [ps, c3]; exact ⟨fun h => .inr ⟨h, hvd⟩, fun h => by rcases h with ⟨e, _⟩ | h; exact absurd e hvd; exact h.1⟩)
        subst v2
        obtain ⟨b1, ox, b2, b3, b4, b5⟩ := coreW_callFrame hx (own' := putOwn oi ri.gives i.dst) (fun a b => by rw [pc, d2]; exact ⟨fun h => ⟨h, fun _ e => by cases e⟩, fun h => h.1⟩) f2
        simp only at b1 b2 b3 b4 b5
        refine ⟨oi, by rw [d1, v3], ox, b2, ?_⟩
        intro l
        cases l with
        | cell a b => rw [pc, pc, b5, v4, pc]; exact ⟨fun h => ⟨h, fun _ e => by cases e⟩, fun h => h.1⟩
        | slot s =>
          rw [ps, ps, b4, ps, d2, v4, ps, c3, b1, v3]
          constructor
          · rintro (⟨_, e⟩ | ⟨⟨e1, e2⟩ | ⟨⟨e1, e3⟩, e4⟩, e2⟩)
            · cases e
            · exact .inl ⟨e1, e2⟩
            · exact .inr ⟨⟨.inr ⟨e1, e2⟩, e3⟩, e4⟩
          · rintro (⟨e1, e2⟩ | ⟨⟨⟨_, e⟩ | ⟨e1, e2⟩, e3⟩, e4⟩)
            · exact .inr ⟨.inl ⟨e1, e2⟩, fun e => hne s e e1⟩
            · cases e
            · exact .inr ⟨.inr ⟨⟨e1, e3⟩, e4⟩, e2⟩
    by_cases hld : mx = true ∧ ((isCallV x = true ∧ mixAt ops x = true ∧ isLd i = true) ∨ (isLd x = true ∧ isCallV i = true ∧ mixAt ops i = true))
    · obtain ⟨hm, hld⟩ := hld
      have pc : ∀ (own : List Loc) (g : Bool) (dst : Option Nat) (l : Loc), l.isCell = true → (l ∈ putOwn own g dst ↔ l ∈ own) := by
        intro own g dst l hl
        rw [mem_putOwn]
        constructor
        · rintro (⟨s, _, e, _⟩ | h)
          · rw [e] at hl; cases hl
          · exact h.1
        · exact fun h => .inr ⟨h, fun s _ e => by rw [e] at hl; cases hl⟩
      have ps : ∀ (own : List Loc) (g : Bool) (dst : Option Nat) (s : Nat), Loc.slot s ∈ putOwn own g dst ↔ (dst = some s ∧ g = true) ∨ (Loc.slot s ∈ own ∧ dst ≠ some s) := by
        intro own g dst s
        rw [mem_putOwn]
        constructor
        · rintro (⟨s', e1, e2, e3⟩ | ⟨e1, e2⟩)
          · injection e2 with e2; subst e2; exact .inl ⟨e1, e3⟩
          · exact .inr ⟨e1, fun e => e2 s e rfl⟩
        · rintro (⟨e1, e2⟩ | ⟨e1, e2⟩)
          · exact .inl ⟨s, e1, rfl, e2⟩
          · exact .inr ⟨e1, fun s' e e3 => by injection e3 with e3; subst e3; exact e2 e⟩
      rcases hld with ⟨hcv, hma, hl⟩ | ⟨hl, hcv, hma⟩
      · -- the call ahead of the load
        obtain ⟨x1, n, n1, x2, x3⟩ := coreW_callOwn ((hmx hm).1 x hma).2.2 hcv hcx
        obtain ⟨m, v1, v2, v3, v4, v5⟩ := coreW_ldFrame hl f1
        generalize ldV ops st.env i = v at v1 v4 v5
        simp only at v2 v3 v4
        subst v2
        have hvn : ∀ q, v = some q → q ∉ n := fun q e hq => by have := n1 q hq; rw [(v1 q e).1] at this; cases this
        obtain ⟨oi, d1, d2⟩ := v5 st.own (fun q e => by
          rw [pc _ _ _ q (v1 q e).2, x2]
          exact ⟨fun h => .inl h, fun h => h.elim (fun h => h) fun h => absurd h (hvn q e)⟩)
        obtain ⟨y1, n', n1', y2, y3⟩ := coreW_callOwn ((hmx hm).1 x hma).2.2 hcv f2
        obtain ⟨o2, z1, z2⟩ := y3 st.own
        obtain ⟨ox, w1, w2⟩ := y3 (putOwn oi ri.gives i.dst)
        simp only at y1 y2 w1 w2
        refine ⟨oi, by rw [d1, v3], ox, by rw [w1, y1], ?_⟩
        have hnn : ∀ l : Loc, l ∉ st.own → (l ∈ n ↔ l ∈ n') := by
          intro l hl
          have e1 := x2 l
          have e2 := y2 l
          constructor
          · intro h; exact (e2.1 (e1.2 (.inr h))).elim (fun h => absurd h hl) fun h => h
          · intro h; exact (e1.1 (e2.2 (.inr h))).elim (fun h => absurd h hl) fun h => h
        intro l
        cases hc : l.isCell with
        | true =>
          rw [pc _ _ _ l hc, pc _ _ _ l hc, w2, pc _ _ _ l hc, d2, v4, pc _ _ _ l hc, x2]
          by_cases hin : l ∈ st.own
          · constructor
            · rintro (⟨_, h2⟩ | h)
              · exact ⟨.inl hin, h2⟩
              · exact ⟨.inl hin, fun _ e => by have := n1' l h; rw [(v1 l e).1] at this; cases this⟩
            · rintro ⟨_, h⟩; exact .inl ⟨hin, h⟩
          · rw [← hnn l hin]
            constructor
            · rintro (⟨h1, _⟩ | h)
              · exact absurd h1 hin
              · exact ⟨.inr h, fun _ e => hvn l e h⟩
            · rintro ⟨h | h, _⟩
              · exact absurd h hin
              · exact .inr h
        | false =>
          cases l with
          | cell _ _ => cases hc
          | slot s =>
            have hsn : Loc.slot s ∉ n := fun h => by have := n1 _ h; cases this
            have hsn' : Loc.slot s ∉ n' := fun h => by have := n1' _ h; cases this
            have hvs : m = true → v ≠ some (.slot s) := fun _ e => by have := (v1 _ e).2; cases this
            rw [ps, ps, w2, ps, d2, v4, ps, x2, x1, v3]
            constructor
            · rintro (⟨_, e⟩ | ⟨h | h, e2⟩)
              · cases e
              · rcases h with ⟨e1, e3⟩ | ⟨⟨e1, e3⟩, e4⟩
                · exact .inl ⟨e1, e3⟩
                · exact .inr ⟨⟨.inr ⟨.inl e1, e2⟩, e3⟩, e4⟩
              · exact absurd h hsn'
            · rintro (⟨e1, e2⟩ | ⟨⟨h, e3⟩, e4⟩)
              · exact .inr ⟨.inl (.inl ⟨e1, e2⟩), fun e => hne s e e1⟩
              · rcases h with ⟨_, e⟩ | ⟨h | h, e2⟩
                · cases e
                · exact .inr ⟨.inl (.inr ⟨⟨h, e3⟩, e4⟩), e2⟩
                · exact absurd h hsn
      · -- the load ahead of the call
        obtain ⟨m, v1, v2, v3, v4, v5⟩ := coreW_ldFrame hl hcx
        obtain ⟨x1, n, n1, x2, x3⟩ := coreW_callOwn ((hmx hm).1 i hma).2.2 hcv f1
        simp only at x1 x2 x3
        obtain ⟨oi, d1, d2⟩ := x3 st.own
        obtain ⟨m', v1', v2', v3', v4', v5'⟩ := coreW_ldFrame hl f2
        simp only at v2' v3' v4'
        generalize ldV ops st.env x = v at v1 v4 v5 v1' v4' v5'
        obtain rfl : m' = m := by rw [← v3', v3]
        have hvn : ∀ q, v = some q → q ∉ n := fun q e hq => by have := n1 q hq; rw [(v1 q e).1] at this; cases this
        obtain ⟨ox, w1, w2⟩ := v5' (putOwn oi ri.gives i.dst) (fun q e => by
          rw [pc _ _ _ q (v1 q e).2, d2]
          exact ⟨fun h => h.elim (fun h => h) fun h => absurd h (hvn q e), fun h => .inl h⟩)
        refine ⟨oi, by rw [d1, x1], ox, by rw [w1, v3', v2'], ?_⟩
        intro l
        cases hc : l.isCell with
        | true =>
          rw [pc _ _ _ l hc, pc _ _ _ l hc, w2, pc _ _ _ l hc, d2, x2, pc _ _ _ l hc, v4]
          constructor
          · rintro ⟨h | h, h2⟩
            · exact .inl ⟨h, h2⟩
            · exact .inr h
          · rintro (⟨h, h2⟩ | h)
            · exact ⟨.inl h, h2⟩
            · exact ⟨.inr h, fun _ e => hvn l e h⟩
        | false =>
          cases l with
          | cell _ _ => cases hc
          | slot s =>
            have hsn : Loc.slot s ∉ n := fun h => by have := n1 _ h; cases this
            have hvs : m' = true → v ≠ some (.slot s) := fun _ e => by have := (v1 _ e).2; cases this
            rw [ps, ps, w2, ps, d2, x2, ps, v4, x1, v3]
            constructor
            · rintro (⟨e1, e2⟩ | ⟨⟨⟨_, e⟩ | ⟨h | h, e3⟩, _⟩, e4⟩)
              · exact .inr ⟨.inl (.inl ⟨e1, e2⟩), hne s e1⟩
              · cases e
              · exact .inr ⟨.inl (.inr ⟨⟨h, hvs⟩, e4⟩), e3⟩
              · exact absurd h hsn
            · rintro (⟨_, e⟩ | ⟨(⟨e1, e2⟩ | ⟨⟨h, _⟩, e4⟩) | h, e3⟩)
              · cases e
              · exact .inl ⟨e1, e2⟩
              · exact .inr ⟨⟨.inr ⟨.inl h, e3⟩, hvs⟩, e4⟩
              · exact absurd h hsn
    have ue : ends ops x = false ∨ ends ops i = false := by
      rcases u.e with h | h | h | h
      · exact .inl h
      · exact .inr h
      · exact absurd h hmc
      · exact absurd h hld
    cases hex : ends ops x with
    | false =>
      obtain ⟨q1, q2⟩ := coreW_own hex f2
      obtain ⟨o1, _⟩ := coreW_own hex hcx
      have hlike : Like (fun s => x.dst = some s) (putOwn rx.own rx.gives x.dst) st.own := by
        intro l hl
        rw [mem_putOwn, o1]
        constructor
        · rintro (⟨s, e1, e2, _⟩ | ⟨e, _⟩)
          · exact absurd e1 (hl s e2)
          · exact e
        · intro h
          exact .inr ⟨h, fun s e1 e2 => hl s e2 e1⟩
      obtain ⟨oi, g1, g2, g3⟩ := coreW_frame (S := fun s => x.dst = some s) (fun s hs => (u.r1 s hs).1) hlike f1
      simp only at g1 g2 g3
      refine ⟨oi, g1, putOwn oi ri.gives i.dst, q2 _, ?_⟩
      intro l
      by_cases hl : ∃ s, l = .slot s ∧ x.dst = some s
      · obtain ⟨s, rfl, hs⟩ := hl
        rw [mem_putOwn, mem_putOwn (own := ri.own)]
        have h3 := (g3 s hs).1
        rw [mem_putOwn] at h3
        constructor
        · rintro (⟨s', e1, e2, e3⟩ | ⟨_, e⟩)
          · refine .inr ⟨h3.2 (.inl ⟨s', e1, e2, e3⟩), fun s2 e4 e5 => ?_⟩
            injection e5 with e5; subst e5; exact hne _ hs e4
          · exact absurd rfl (e s hs)
        · rintro (⟨s', e1, e2, e3⟩ | ⟨e, _⟩)
          · injection e2 with e2; subst e2; exact absurd e1 (hne _ hs)
          · rcases h3.1 e with ⟨s', e1, e2, e3⟩ | ⟨_, e2⟩
            · exact .inl ⟨s', e1, e2, e3⟩
            · exact absurd rfl (e2 s hs)
      · have hl' : ∀ s, l = .slot s → ¬ x.dst = some s := fun s e1 e2 => hl ⟨s, e1, e2⟩
        rw [mem_putOwn, mem_putOwn, mem_putOwn (own := ri.own), g2 l hl']
        constructor
        · rintro (⟨s', e1, e2, e3⟩ | ⟨e, _⟩)
          · exact absurd e1 (hl' s' e2)
          · exact e
        · intro e
          exact .inr ⟨e, fun s e1 e2 => hl' s e2 e1⟩
    | true =>
      have hei : ends ops i = false := by
        rcases ue with h | h
        · rw [hex] at h; cases h
        · exact h
      obtain ⟨q1, q2⟩ := coreW_own hei f1
      simp only at q1 q2
      have hlike : Like (fun s => i.dst = some s) st.own (putOwn st.own ri.gives i.dst) := by
        intro l hl
        rw [mem_putOwn]
        constructor
        · intro h
          exact .inr ⟨h, fun s e1 e2 => hl s e2 e1⟩
        · rintro (⟨s, e1, e2, _⟩ | ⟨e, _⟩)
          · exact absurd e1 (hl s e2)
          · exact e
      obtain ⟨ox, g1, g2, g3⟩ := coreW_frame (S := fun s => i.dst = some s) (fun s hs => u.r2 s hs) hlike f2
      simp only at g1 g2 g3
      refine ⟨st.own, q2 _, ox, g1, ?_⟩
      intro l
      rw [q1]
      by_cases hl : ∃ s, l = .slot s ∧ i.dst = some s
      · obtain ⟨s, rfl, hs⟩ := hl
        rw [mem_putOwn, mem_putOwn]
        have h3 := (g3 s hs).2
        rw [mem_putOwn] at h3
        constructor
        · rintro (⟨s', e1, e2, e3⟩ | ⟨e, _⟩)
          · injection e2 with e2; subst e2; exact absurd hs (hne _ e1)
          · rcases h3.1 e with h | ⟨_, e2⟩
            · exact .inl h
            · exact absurd rfl (e2 s hs)
        · rintro (⟨s', e1, e2, e3⟩ | ⟨_, e⟩)
          · refine .inr ⟨h3.2 (.inl ⟨s', e1, e2, e3⟩), fun s2 e4 e5 => ?_⟩
            injection e5 with e5; subst e5; exact hne _ e4 hs
          · exact absurd rfl (e s hs)
      · have hl' : ∀ s, l = .slot s → ¬ i.dst = some s := fun s e1 e2 => hl ⟨s, e1, e2⟩
        rw [mem_putOwn, mem_putOwn, mem_putOwn, g2 l hl']
        constructor
        · intro e
          exact .inr ⟨e, fun s e1 e2 => hl' s e2 e1⟩
        · rintro (⟨s', e1, e2, e3⟩ | ⟨e, _⟩)
          · exact absurd e1 (hl' s' e2)
          · exact e
  obtain ⟨oi, g1, ox, g2, g3⟩ := hO
  refine ⟨⟨putEnv st.env i.dst ri.val, Hi, putOwn oi ri.gives i.dst⟩, ⟨putEnv (putEnv st.env i.dst ri.val) x.dst rx.val, ri.H, putOwn ox rx.gives x.dst⟩,
    stepV_of (stepW_iff.2 ⟨_, g1, put_iff.2 ⟨hni, rfl⟩⟩) ?_, stepV_of (stepW_iff.2 ⟨⟨rx.val, ri.H, ox, rx.gives⟩, ?_, put_iff.2 ⟨hnx, rfl⟩⟩) ?_, ?_, rfl, g3⟩
  · exact watch_to hqi (fun s hs => by rw [look_putEnv, if_neg (fun e => (u.r1 s e).1 (wbslot_reads hs))]) (fun hw => f4 (wslot_call hw))
  · simp only
    rw [← g2]
    apply coreW_env
    intro s hs
    rw [look_putEnv, if_neg]
    intro e
    exact u.r2 s e hs
  · exact watch_to hqx (fun s hs => by rw [look_putEnv, if_neg (fun e => u.r2 s e (wbslot_reads hs))]) (fun hw => f3 (wslot_call hw))
  · intro k
    simp only [look_putEnv]
    by_cases h1 : x.dst = some k
    · rw [if_pos h1, if_pos h1, if_neg (u.r1 k h1).2]
    · rw [if_neg h1, if_neg h1]

theorem stepW_eq {o : Oper} {st st' s1 : St} (h : EqSt st st') (hs : stepW call P nt (some (base, lt)) ops o st = some s1) : ∃ s1', stepW call P nt (some (base, lt)) ops o st' = some s1' ∧ EqSt s1 s1' := by
  obtain ⟨r, hc, hp⟩ := stepW_iff.1 hs
  obtain ⟨hn, rfl⟩ := put_iff.1 hp
  rw [coreW_env (env' := st'.env) fun s _ => h.env s, h.H] at hc
  obtain ⟨oo, g1, g2, _⟩ := coreW_frame (S := fun _ => False) (fun s hs => hs.elim) (own' := st'.own) (fun l _ => h.own l) hc
  refine ⟨_, stepW_iff.2 ⟨_, g1, put_iff.2 ⟨hn, rfl⟩⟩, ?_, rfl, ?_⟩
  · intro k; simp only [look_putEnv, h.env k]
  · intro l
    rw [mem_putOwn, mem_putOwn, g2 l fun s _ hs => hs.elim]
theorem stepV_eq {o : Oper} {st st' s1 : St} (h : EqSt st st') (hs : stepV call P nt (some (base, lt)) ops o st = some s1) : ∃ s1', stepV call P nt (some (base, lt)) ops o st' = some s1' ∧ EqSt s1 s1' := by
  obtain ⟨h1, hw⟩ := stepV_some hs
  obtain ⟨s1', h2, h3⟩ := stepW_eq h h1
  exact ⟨s1', stepV_of h2 (by rw [← h.H, ← h3.H]; exact watch_to hw (fun s _ => (h.env s).symm) (fun _ id _ => ⟨rfl, rfl⟩)), h3⟩
theorem runOps_eq {c : Oper → CallA} : ∀ (l : List Oper) {st st' s1 : St}, EqSt st st' → runOps c P nt (some (base, lt)) ops l st = some s1 → ∃ s1', runOps c P nt (some (base, lt)) ops l st' = some s1' ∧ EqSt s1 s1'
  | [], _, _, _, h, hs => by simp only [runOps, Option.some.injEq] at hs ⊢; subst hs; exact ⟨_, rfl, h⟩
  | o :: l, st, st', s1, h, hs => by
    simp only [runOps] at hs ⊢
    split at hs
    · rename_i q hq
      obtain ⟨q', hq', he⟩ := stepV_eq h hq
      obtain ⟨s1', h1, h2⟩ := runOps_eq l he hs
      exact ⟨s1', by rw [hq']; exact h1, h2⟩
    · cases hs
theorem EqSt.trans {a b c : St} (h : EqSt a b) (k : EqSt b c) : EqSt a c := ⟨fun s => (h.env s).trans (k.env s), h.H.trans k.H, fun l => (h.own l).trans (k.own l)⟩
theorem EqSt.symm {a b : St} (h : EqSt a b) : EqSt b a := ⟨fun s => (h.env s).symm, h.H.symm, fun l => (h.own l).symm⟩

theorem front_env {c : Oper → CallA} {i : Oper} : ∀ (l : List Oper) {st stA : St}, runOps c P nt (some (base, lt)) ops l st = some stA → (∀ x ∈ l, Unord ops lt mx x i) → ∀ s ∈ reads ops i, look stA.env s = look st.env s
  | [], st, stA, h, _, s, _ => by simp only [runOps, Option.some.injEq] at h; subst h; rfl
  | x :: l, st, stA, h, hu, s, hs => by
    simp only [runOps] at h
    split at h
    case h_2 => cases h
    rename_i st1 hx
    rw [front_env l h (fun y hy => hu y (by simp [hy])) s hs]
    obtain ⟨r, _, hp⟩ := stepW_iff.1 (stepV_some hx).1
    obtain ⟨_, rfl⟩ := put_iff.1 hp
    show look (putEnv st.env x.dst r.val) s = _
    rw [look_putEnv, if_neg (fun e => ((hu x (by simp)).r1 s e).1 hs)]
/-- An operation that has nothing to do with those ahead of it goes first. -/
theorem front {c : Oper → CallA} {i : Oper} : ∀ (l : List Oper) {st stA stB : St}, runOps c P nt (some (base, lt)) ops l st = some stA → stepV (c i) P nt (some (base, lt)) ops i stA = some stB → (∀ x ∈ l, Unord ops lt mx x i) → (mx = true → (∀ o, mixAt ops o = true → FullLock (c o) ∧ CallFill (c o) ∧ CallOwn (c o)) ∧ ∀ o, CallLen (c o)) → (mx = true → base + allocs ops ≤ st.H.length) →
    (∀ id, Asks st.env i id → Live st.H id) →
    ∃ s1 s2, stepV (c i) P nt (some (base, lt)) ops i st = some s1 ∧ runOps c P nt (some (base, lt)) ops l s1 = some s2 ∧ EqSt s2 stB
  | [], st, stA, stB, hr, hi, _, _, _, _ => by
    simp only [runOps, Option.some.injEq] at hr; subst hr
    exact ⟨stB, stB, hi, rfl, fun _ => rfl, rfl, fun _ => Iff.rfl⟩
  | x :: l, st, stA, stB, hr, hi, hu, hmx, hba, hv => by
    simp only [runOps] at hr
    split at hr
    case h_2 => cases hr
    rename_i st1 hx
    have ux := hu x (by simp)
    obtain ⟨t1, t2, ht1, ht2, heq⟩ := front l hr hi (fun y hy => hu y (by simp [hy])) hmx (fun e => Nat.le_trans (hba e) (stepW_len ((hmx e).2 x) (stepV_some hx).1)) (by
      intro id hask
      obtain ⟨hx, hwx⟩ := stepV_some hx
      obtain ⟨r, hcr, hpr⟩ := stepW_iff.1 hx
      obtain ⟨hn, rfl⟩ := put_iff.1 hpr
      simp only at hask ⊢
      have hl := hv id ((asks_env fun s hs => by
        rw [look_putEnv, if_neg]
        intro e
        exact (ux.r1 s e).1 (List.mem_append_right _ hs)).1 hask)
      cases hhx : heapOp x with
      | true =>
        rcases ux.h1 hhx with ⟨_, t, s0, s, hop, hbs, hs⟩ | h | ⟨⟨ws, h1⟩, h2, _⟩ | ⟨h1, h2, _⟩
        · obtain ⟨off0, hl0⟩ := ask_slot hop hask
          have hb1 : bOk ops i (putEnv st.env x.dst r.val) = true := bOk_env (watch_b (stepV_some hi).2) (fun q hq => (front_env l hr (fun y hy => hu y (by simp [hy])) q (bslot_reads hq)).symm)
          obtain ⟨off, hls⟩ := bOk_same hb1 hop hbs hl0
          have hwx : watchOk ops x st.env st.H r.H = true := hwx
          rw [look_putEnv, if_neg (fun e => (ux.r1 s e).1 (bslot_reads (.inl hbs)))] at hls
          have := (watch_same hwx hs hls).1
          obtain ⟨b, hb⟩ := hl
          exact ⟨b, by rw [this]; exact hb⟩
        · exact absurd hask (noAsks h)
        · exact (coreW_store h2 h1 hcr).2 id hl
        · obtain ⟨b, hb⟩ := hl
          exact ⟨b, by rw [(coreW_call ((hmx h1.1).1 x h1.2).1 ((hmx h1.1).1 x h1.2).2.1 h2 hcr).1.2 id (List.getElem?_eq_some_iff.1 hb).1]; exact hb⟩
      | false =>
        obtain ⟨b, hb⟩ := hl
        exact ⟨b, by rw [live_step hhx hcr ⟨b, hb⟩]; exact hb⟩)
    obtain ⟨s1, s2, h1, h2, he⟩ := swap hx ht1 ux hmx hba hv
    obtain ⟨s3, h3, he3⟩ := runOps_eq l he.symm ht2
    exact ⟨s1, s3, h1, by simp only [runOps, h2]; exact h3, he3.symm.trans heq⟩

theorem runOps_append {c : Oper → CallA} (l1 l2 : List Oper) (st : St) : runOps c P nt (some (base, lt)) ops (l1 ++ l2) st = (runOps c P nt (some (base, lt)) ops l1 st).bind (runOps c P nt (some (base, lt)) ops l2) := by
  induction l1 generalizing st with
  | nil => rfl
  | cons o l ih =>
    simp only [List.cons_append, runOps]
    split
    · rename_i q hq; exact ih q
    · rfl

end
end Go.Proofs.YtomheegfobcijaaGreatDoor.Am
