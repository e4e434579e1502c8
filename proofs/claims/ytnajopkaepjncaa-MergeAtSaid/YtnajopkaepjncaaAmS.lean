/- The abstract machine is right: lists that are written into. -/
import Derived.Test.YtnajopkaepjncaaAm16
namespace Go.Proofs.Ytnajopkaepjncaa.Am
set_option linter.unusedVariables false
set_option linter.unusedSimpArgs false
open Go.RowKit

section
variable {P : Program} {w : World}

/-! ### a new block, however it was made -/
theorem mk_grow {G : Gh} {w' : World} (hb : Below w.heap.size w w') {id : Nat} (hid : G.f id = none) (n : Nat) : Grow G w (G.map id w.heap.size n) w' where
  below := hb
  lim := fun _ _ => rfl
  owner := fun _ _ => rfl
  bs := fun b hb => upd_ne _ _ (by omega)
  f := fun i b h => by
    show upd G.f id _ i = _
    rw [upd_ne _ _ (by rintro rfl; rw [hid] at h; cases h)]; exact h
  fnew := fun i b h => by
    change upd G.f id (some w.heap.size) i = some b at h
    by_cases hi : i = id
    · subst hi; rw [upd_same] at h; injection h with h; exact .inr ⟨hid, by omega⟩
    · rw [upd_ne _ _ hi] at h; exact .inl h
theorem mk_gok {G : Gh} (g : GOk G w) {w' : World} (hs : w.heap.size < w'.heap.size) (id n : Nat) : GOk (G.map id w.heap.size n) w' where
  fin := fun i b h => by
    change upd G.f id (some w.heap.size) i = some b at h
    by_cases hi : i = id
    · subst hi; rw [upd_same] at h; injection h with h; subst h
      obtain ⟨h1, h2, h3⟩ := g.new w.heap.size (Nat.le_refl _)
      exact ⟨hs, h1, h2⟩
    · rw [upd_ne _ _ hi] at h
      obtain ⟨h1, h2, h3⟩ := g.fin i b h
      exact ⟨by omega, h2, h3⟩
  new := fun b hb => by
    obtain ⟨h1, h2, h3⟩ := g.new b (by omega)
    exact ⟨h1, h2, by show upd _ _ _ b = 0; rw [upd_ne _ _ (by omega)]; exact h3⟩
theorem mk_heap {G : Gh} (g : GOk G w) {w' : World} (hb : Below w.heap.size w w') {id : Nat} (hid : G.f id = none) {xs : List AV} {cs : Array Value} {e : TypeId} (hn : w'.heap[w.heap.size]? = some (.cells cs e (0, 0))) (hl : xs.length ≤ cs.size)
    (hr : ∀ j, j < xs.length → Rep P (G.mem w) (xs.getD j .undef) (cs.getD j undef) ∧ (cs.getD j undef).oneCell' = true) {H : List (Option Blk)} (r : HeapRel P G H w) (hH : H[id]? = some (some ⟨e, xs⟩)) :
    HeapRel P (G.map id w.heap.size cs.size) H w' := by
  have split_ : ∀ i b, (G.map id w.heap.size cs.size).f i = some b → (i = id ∧ b = w.heap.size) ∨ (i ≠ id ∧ G.f i = some b) := by
    intro i b h
    change upd G.f id (some w.heap.size) i = some b at h
    by_cases hi : i = id
    · subst hi; rw [upd_same] at h; injection h with h; exact .inl ⟨rfl, h.symm⟩
    · rw [upd_ne _ _ hi] at h; exact .inr ⟨hi, h⟩
  have gr := mk_grow hb hid cs.size
  refine ⟨?_, ?_, ?_⟩
  · intro i b h
    rcases split_ i b h with ⟨rfl, rfl⟩ | ⟨_, h⟩
    · exact ⟨_, hH⟩
    · exact r.dom i b h
  · intro i b k h hk
    rcases split_ i b h with ⟨rfl, rfl⟩ | ⟨_, h⟩
    · rw [hH] at hk; injection hk with hk; injection hk with hk; subst hk
      exact ⟨cs, hn, hl, (by show cs.size = upd G.bs w.heap.size cs.size w.heap.size; rw [upd_same]), fun j hj => (gr.ext g).rep (hr j hj).1, fun j hj => (hr j hj).2⟩
    · exact (r.blk i b k h hk).grow gr g (g.fin i b h).1
  · intro i j b k l h1 h2 hk hl n1 n2
    rcases split_ i b h1 with ⟨q1, q2⟩ | ⟨_, q1⟩ <;> rcases split_ j b h2 with ⟨q3, q4⟩ | ⟨_, q3⟩
    · rw [q1, q3]
    · have := (g.fin j _ q3).1; omega
    · have := (g.fin i _ q1).1; omega
    · exact r.inj i j b k l q1 q3 hk hl n1 n2

/-- A block that is dead. -/
theorem kill_heap {G : Gh} {H : List (Option Blk)} (r : HeapRel P G H w) {id : Nat} {k : Blk} (hk : H[id]? = some (some k)) : HeapRel P G (H.set id (some ⟨k.e, []⟩)) w := by
  have hlt : id < H.length := (List.getElem?_eq_some_iff.1 hk).1
  have hset : ∀ j q, (H.set id (some ⟨k.e, []⟩))[j]? = some (some q) → (j = id ∧ q = ⟨k.e, []⟩) ∨ (j ≠ id ∧ H[j]? = some (some q)) := by
    intro j q hj
    by_cases hji : j = id
    · subst hji
      rw [List.getElem?_set_self hlt] at hj
      injection hj with hj; injection hj with hj
      exact .inl ⟨rfl, hj.symm⟩
    · rw [List.getElem?_set_ne (fun e => hji e.symm)] at hj
      exact .inr ⟨hji, hj⟩
  refine ⟨fun i b h => (r.dom i b h).set _ _, fun i b q h hq => ?_, fun i j b q l h1 h2 h3 h4 n1 n2 => ?_⟩
  · rcases hset i q hq with ⟨rfl, rfl⟩ | ⟨_, hq⟩
    · obtain ⟨ds, d1, d2, d3, d4, d5⟩ := r.blk i b k h hk
      exact ⟨ds, d1, Nat.zero_le _, d3, fun j hj => absurd hj (Nat.not_lt_zero _), fun j hj => absurd hj (Nat.not_lt_zero _)⟩
    · exact r.blk i b q h hq
  · rcases hset i q h3 with ⟨_, rfl⟩ | ⟨_, h3⟩
    · exact absurd rfl n1
    · rcases hset j l h4 with ⟨_, rfl⟩ | ⟨_, h4⟩
      · exact absurd rfl n2
      · exact r.inj i j b q l h1 h2 h3 h4 n1 n2
theorem kill_owns {G : Gh} {env : List (Nat × AV)} {H : List (Option Blk)} {own : List Loc} {t : Nat → Value} (o : Owns P G env H own t w) {id : Nat} {k : Blk} (hk : H[id]? = some (some k)) : Owns P G env (H.set id (some ⟨k.e, []⟩)) own t w := by
  have hlt : id < H.length := (List.getElem?_eq_some_iff.1 hk).1
  refine ⟨o.slot, fun i off b q cs hm hf hq hb => ?_, fun i off hm => (o.dom i off hm).set _ _⟩
  by_cases hji : i = id
  · subst hji
    rw [List.getElem?_set_self hlt] at hq
    injection hq with hq; injection hq with hq
    subst hq
    intro e xs hx
    cases hx
  · rw [List.getElem?_set_ne (fun e => hji e.symm)] at hq
    exact o.cell i off b q cs hm hf hq hb
theorem more_heap {G : Gh} {H : List (Option Blk)} (r : HeapRel P G H w) (E : List (Option Blk)) : HeapRel P G (H ++ E) w := by
  refine ⟨fun i b hf => (r.dom i b hf).append _, fun i b k hf hk => ?_, fun i j b k l h1 h2 h3 h4 n1 n2 => ?_⟩
  · have := (r.dom i b hf).lt
    rw [List.getElem?_append_left this] at hk
    exact r.blk i b k hf hk
  · have q1 := (r.dom i b h1).lt
    have q2 := (r.dom j b h2).lt
    rw [List.getElem?_append_left q1] at h3
    rw [List.getElem?_append_left q2] at h4
    exact r.inj i j b k l h1 h2 h3 h4 n1 n2
theorem more_owns {G : Gh} {env : List (Nat × AV)} {H : List (Option Blk)} {own : List Loc} {t : Nat → Value} (r : HeapRel P G H w) (o : Owns P G env H own t w) (E : List (Option Blk)) : Owns P G env (H ++ E) own t w :=
  ⟨o.slot, fun i off b k cs hm hf hk hb => by
      have := (r.dom i b hf).lt
      rw [List.getElem?_append_left this] at hk
      exact o.cell i off b k cs hm hf hk hb, fun i off hm => (o.dom i off hm).append _⟩

/-- A list in a new block of the machine's. -/
theorem done_sl {G : Gh} {env : List (Nat × AV)} {H : List (Option Blk)} {own : List Loc} {t : Nat → Value} (g : GOk G w) (h : HeapRel P G H w) (o : Owns P G env H own t w) {w' : World} (hbel : Below w.heap.size w w') {xs : List AV} {cs : Array Value} {e : TypeId} {len cap sz : Nat}
    (hn : w'.heap[w.heap.size]? = some (.cells cs e (0, 0))) (hl : xs.length ≤ cs.size) (hr : ∀ j, j < xs.length → Rep P (G.mem w) (xs.getD j .undef) (cs.getD j undef) ∧ (cs.getD j undef).oneCell' = true)
    (hs : sizeT P e = some sz) (hz : 0 < sz) (hcap : cap * sz ≤ cs.size) (hlen : len ≤ cap) (d : Nat) :
    Done P G w env t ⟨.sl e H.length 0 len, H ++ [some ⟨e, xs⟩], own, false⟩ d (.slice (some ⟨w.heap.size, 0, none⟩) len cap) w' (G.map H.length w.heap.size cs.size) := by
  have hid : G.f H.length = none := by
    cases hf : G.f H.length with
    | none => rfl
    | some b => have := (h.dom _ _ hf).lt; omega
  have hsz : w.heap.size < w'.heap.size := (Array.getElem?_eq_some_iff.1 hn).1
  have gr := mk_grow hbel hid cs.size
  have h1 := more_heap h [some ⟨e, xs⟩]
  have o1 := more_owns h o [some ⟨e, xs⟩]
  refine ⟨gr.ext g, mk_gok g hsz _ _, mk_heap g hbel hid hn hl hr h1 (by rw [List.getElem?_append_right (Nat.le_refl _)]; simp), ?_, fun s _ hs' => (o1.slot s hs').grow gr, ?_, fun h => (by cases h), o1.dom⟩
  · refine .sl e _ 0 len _ cap sz (upd_same _ _ _) hs hz ?_ hlen
    show 0 + cap * sz ≤ upd G.bs w.heap.size cs.size w.heap.size
    rw [upd_same]; omega
  · intro id' off b k cs' hm hf hk hb
    by_cases hi : id' = H.length
    · have := (o.dom id' off hm).lt; omega
    · change upd G.f H.length (some w.heap.size) id' = some b at hf
      rw [upd_ne _ _ hi] at hf
      have hlt := (g.fin id' b hf).1
      rw [gr.below.block b hlt] at hb
      exact (o1.cell id' off b k cs' hm hf hk hb).grow gr

/-- Another name of a block whose old one is dead; it is written behind its end. -/
theorem done_alias {G : Gh} {env : List (Nat × AV)} {H : List (Option Blk)} {own : List Loc} {t : Nat → Value} (g : GOk G w) (h : HeapRel P G H w) (o : Owns P G env H own t w) {id b : Nat} (hf : G.f id = some b) {k : Blk} (hk : H[id]? = some (some k)) (hkne : k.cs ≠ []) {xs : List AV} {es : Array Value} {len cap sz : Nat}
    (hes : es.size = G.bs b) (hl : xs.length ≤ es.size) (hr : ∀ j, j < xs.length → Rep P (G.mem w) (xs.getD j .undef) (es.getD j undef) ∧ (es.getD j undef).oneCell' = true)
    (hs : sizeT P k.e = some sz) (hz : 0 < sz) (hcap : cap * sz ≤ G.bs b) (hlen : len ≤ cap) (d : Nat) :
    Done P G w env t ⟨.sl k.e H.length 0 len, H.set id (some ⟨k.e, []⟩) ++ [some ⟨k.e, xs⟩], own, false⟩ d (.slice (some ⟨b, 0, none⟩) len cap) (w.setRow b es) { G with f := upd G.f H.length (some b) } := by
  have hid : G.f H.length = none := by
    cases hf : G.f H.length with
    | none => rfl
    | some b => have := (h.dom _ _ hf).lt; omega
  obtain ⟨ds, hd, hsz, hbs, hrep, hone⟩ := h.blk id b k hf hk
  have hlt : id < H.length := (List.getElem?_eq_some_iff.1 hk).1
  have hext0 := store_ext g hf es
  have hgok0 := store_gok g b es
  have hnew : (w.setRow b es).heap[b]? = some (.cells es k.e (0, 0)) := setRow_heap w b ds es k.e (0, 0) hd
  have hoth : ∀ q, q ≠ b → (w.setRow b es).heap[q]? = w.heap[q]? := fun q hq => setRow_other w b q es hq
  have hfG : ∀ i q, upd G.f H.length (some b) i = some q → (i = H.length ∧ q = b) ∨ (i ≠ H.length ∧ G.f i = some q) := by
    intro i q hi
    by_cases hh : i = H.length
    · subst hh; rw [upd_same] at hi; injection hi with hi; exact .inl ⟨rfl, hi.symm⟩
    · rw [upd_ne _ _ hh] at hi; exact .inr ⟨hh, hi⟩
  have hext : Ext G w { G with f := upd G.f H.length (some b) } (w.setRow b es) := by
    refine ⟨hext0.os, hext0.tape, hext0.output, hext0.size, hext0.prot, fun i q hi => ?_, hext0.bs, fun q hq hn => ?_⟩
    · show upd G.f H.length (some b) i = some q
      rw [upd_ne _ _ (by rintro rfl; rw [hid] at hi; cases hi)]; exact hi
    · obtain ⟨a1, a2, a3⟩ := hext0.foreign q hq hn
      refine ⟨a1, a2, ?_⟩
      rintro (⟨i, hi⟩ | ho)
      · rcases hfG i q hi with ⟨_, rfl⟩ | ⟨_, hi⟩
        · exact hn (.inl ⟨id, hf⟩)
        · exact hn (.inl ⟨i, hi⟩)
      · exact hn (.inr ho)
  have hgok : GOk { G with f := upd G.f H.length (some b) } (w.setRow b es) := by
    refine ⟨fun i q hi => ?_, hgok0.new⟩
    rcases hfG i q hi with ⟨_, rfl⟩ | ⟨_, hi⟩
    · exact hgok0.fin id q hf
    · exact hgok0.fin i q hi
  -- the blocks behind it
  have hH : ∀ i q, (H.set id (some ⟨k.e, []⟩) ++ [some ⟨k.e, xs⟩])[i]? = some (some q) → (i = H.length ∧ q = ⟨k.e, xs⟩) ∨ (i ≠ H.length ∧ i = id ∧ q = ⟨k.e, []⟩) ∨ (i ≠ H.length ∧ i ≠ id ∧ H[i]? = some (some q)) := by
    intro i q hi
    have hlen' : (H.set id (some ⟨k.e, []⟩)).length = H.length := List.length_set
    by_cases h1 : i < H.length
    · rw [List.getElem?_append_left (by rw [hlen']; exact h1)] at hi
      by_cases h2 : i = id
      · subst h2
        rw [List.getElem?_set_self hlt] at hi
        injection hi with hi; injection hi with hi
        exact .inr (.inl ⟨by omega, rfl, hi.symm⟩)
      · rw [List.getElem?_set_ne (fun e => h2 e.symm)] at hi
        exact .inr (.inr ⟨by omega, h2, hi⟩)
    · have h3 : i = H.length := by
        have := (List.getElem?_eq_some_iff.1 hi).1
        rw [List.length_append, hlen'] at this
        simp only [List.length_cons, List.length_nil] at this
        omega
      subst h3
      rw [List.getElem?_append_right (by rw [hlen']; exact Nat.le_refl _), hlen', Nat.sub_self] at hi
      injection hi with hi; injection hi with hi
      exact .inl ⟨rfl, hi.symm⟩
  have hdead : ∀ i q k', G.f i = some q → H[i]? = some (some k') → i ≠ id → k'.cs ≠ [] → q ≠ b := by
    intro i q k' h1 h2 h3 h4 e
    subst e
    exact h3 (h.inj i id q k' k h1 hf h2 hk h4 hkne)
  have hheap : HeapRel P { G with f := upd G.f H.length (some b) } (H.set id (some ⟨k.e, []⟩) ++ [some ⟨k.e, xs⟩]) (w.setRow b es) := by
    have hnil : ∀ k' : Blk, k'.cs = [] → k'.e = k.e → BlkAt P ((Gh.mk G.lim (upd G.f H.length (some b)) G.bs G.owner).mem (w.setRow b es)) (w.setRow b es) b k' := by
      intro k' h1 h2
      exact ⟨es, by rw [h2]; exact hnew, by rw [h1]; exact Nat.zero_le _, hes, fun j hj => by rw [h1] at hj; exact absurd hj (Nat.not_lt_zero _), fun j hj => by rw [h1] at hj; exact absurd hj (Nat.not_lt_zero _)⟩
    refine ⟨?_, ?_, ?_⟩
    · intro i q hi
      rcases hfG i q hi with ⟨rfl, rfl⟩ | ⟨_, hi⟩
      · refine ⟨⟨k.e, xs⟩, ?_⟩
        rw [List.getElem?_append_right (by rw [List.length_set]; exact Nat.le_refl _), List.length_set, Nat.sub_self]; rfl
      · exact ((h.dom i q hi).set _ _).append _
    · intro i q k' hi hk'
      rcases hfG i q hi with ⟨rfl, rfl⟩ | ⟨hne, hi2⟩
      · rcases hH _ k' hk' with ⟨_, rfl⟩ | ⟨hn, _⟩ | ⟨hn, _⟩
        · exact ⟨es, hnew, hl, hes, fun j hj => hext.rep (hr j hj).1, fun j hj => (hr j hj).2⟩
        · exact absurd rfl hn
        · exact absurd rfl hn
      · rcases hH _ k' hk' with ⟨hn, _⟩ | ⟨_, rfl, rfl⟩ | ⟨_, hni, hk'⟩
        · exact absurd hn hne
        · rw [hf] at hi2; injection hi2 with hi2; subst hi2
          exact hnil _ rfl rfl
        · obtain ⟨ds', q1, q2, q3, q4, q5⟩ := h.blk i q k' hi2 hk'
          by_cases hqb : q = b
          · subst hqb
            have hn : k'.cs = [] := by
              rcases List.eq_nil_or_concat k'.cs with h | ⟨_, _, h⟩
              · exact h
              · exact absurd rfl (hdead i q k' hi2 hk' hni (by rw [h]; simp))
            rw [hd] at q1; injection q1 with q1; injection q1 with q1 q6
            exact hnil k' hn q6.symm
          · exact ⟨ds', by rw [hoth q hqb]; exact q1, q2, q3, fun j' hj' => hext.rep (q4 j' hj'), q5⟩
    · intro i j q k1 k2 h1 h2 h3 h4 n1 n2
      rcases hH i k1 h3 with ⟨a1, _⟩ | ⟨_, _, rfl⟩ | ⟨a1, a2, a3⟩
      · rcases hH j k2 h4 with ⟨b1, _⟩ | ⟨_, _, rfl⟩ | ⟨b1, b2, b3⟩
        · rw [a1, b1]
        · exact absurd rfl n2
        · exfalso
          rcases hfG i q h1 with ⟨_, rfl⟩ | ⟨hn, _⟩
          · rcases hfG j q h2 with ⟨hn, _⟩ | ⟨_, h2⟩
            · exact b1 hn
            · exact hdead j q k2 h2 b3 b2 n2 rfl
          · exact hn a1
      · exact absurd rfl n1
      · rcases hH j k2 h4 with ⟨b1, _⟩ | ⟨_, _, rfl⟩ | ⟨b1, b2, b3⟩
        · exfalso
          rcases hfG j q h2 with ⟨_, rfl⟩ | ⟨hn, _⟩
          · rcases hfG i q h1 with ⟨hn, _⟩ | ⟨_, h1⟩
            · exact a1 hn
            · exact hdead i q k1 h1 a3 a2 n1 rfl
          · exact hn b1
        · exact absurd rfl n2
        · rcases hfG i q h1 with ⟨hn, _⟩ | ⟨_, h1⟩
          · exact absurd hn a1
          · rcases hfG j q h2 with ⟨hn, _⟩ | ⟨_, h2⟩
            · exact absurd hn b1
            · exact h.inj i j q k1 k2 h1 h2 a3 b3 n1 n2
  have hkeep : ∀ l y u, OwnAt P G w l y u → OwnAt P { G with f := upd G.f H.length (some b) } (w.setRow b es) l y u := fun l y u r => own_setRow g hf es l y u r
  refine ⟨hext, hgok, hheap, .sl k.e _ 0 len b cap sz (upd_same _ _ _) hs hz (by show 0 + cap * sz ≤ G.bs b; omega) hlen, fun s _ hm => hkeep _ _ _ (o.slot s hm), ?_, fun h => (by cases h), fun i off hm => ((o.dom i off hm).set _ _).append _⟩
  intro i off q k' cs' hm hf' hk' hb'
  rcases hfG i q hf' with ⟨rfl, rfl⟩ | ⟨_, hf'⟩
  · have := (o.dom _ off hm).lt; omega
  · rcases hH i k' hk' with ⟨hn, _⟩ | ⟨_, _, rfl⟩ | ⟨_, hni, hk'⟩
    · have := (o.dom _ off hm).lt; omega
    · intro e xs hx; cases hx
    · by_cases hke : k'.cs = []
      · rw [hke]; intro e xs hx; cases hx
      · have hqb := hdead i q k' hf' hk' hni hke
        rw [hoth q hqb] at hb'
        exact hkeep _ _ _ (o.cell i off q k' cs' hm hf' hk' hb')

/-- Lists that are written into, made. -/
theorem newSl_sound {G : Gh} {env : List (Nat × AV)} {H : List (Option Blk)} {own : List Loc} {a : Act} {e : TypeId} {o : Oper} {r : Res} (g : GOk G w) (hH : HeapRel P G H w) (ow : Owns P G env H own (slotsOf a) w) (he : EnvRel P (G.mem w) env a)
    (h : newSl P e o.op env H own = some r) (d : Nat) :
    ∃ v w' G', (execOp a.eval o).run P w = .ok (.value v) w' ∧ Done P G w env (slotsOf a) r d v w' G' := by
  obtain ⟨dst, op, ty, pos, after, guard⟩ := o
  simp only at h
  unfold newSl at h
  split at h
  · rename_i t len cap
    split at h
    · rename_i e' n c hu hn hcp
      split at h
      · rename_i n' c' i z hn' hc' hi hz
        split at h
        · rename_i hcond
          obtain ⟨rfl, hnc, hby, hc, hp, hzl⟩ := hcond
          injection h with h; subst h
          obtain ⟨k1, e1⟩ := natA_spec hn' (he.opd hn)
          obtain ⟨k2, e2⟩ := natA_spec hc' (he.opd hcp)
          have hs : sizeT P e' = some i.size := by simp [sizeT, hi]
          obtain ⟨zv, hzr, hzc⟩ := zero_sound (M := G.mem w) (w := w) hz
          have hzz : i.zero = some zv := by
            simp only [zeroValue, Sem.run_bind, run_typeInfo' hi, Result.andThen_ok] at hzr
            cases hiz : i.zero with
            | none => rw [hiz] at hzr; simp at hzr
            | some q => rw [hiz] at hzr; simp at hzr; rw [hzr]
          have hrun := run_make (P := P) w t e' i zv hu hi hzz k1 k2 n' c' (by omega) (by omega) (by
            have : ((i.bytes * c' : Nat) : Int) ≤ 281474976710656 := by rw [Nat.mul_comm]; omega
            rwa [Int.natCast_mul] at this) (by omega)
          simp only [Int.toNat_natCast] at hrun
          have hmr := made_rep hzc hzl hp c'
          have hml : (rep c' z).length = c' * i.size := rep_length hzl c'
          refine ⟨_, _, _, ?_, done_sl (sz := i.size) (cap := c') g hH ow (w' := w.alloc (.cells (madeCells zv.cells (c' * i.size)) e')) ((Below.refl _ _).alloc (Nat.le_refl _) _) (xs := rep c' z) (alloc_heap_new w _) (by rw [hml, size_madeCells]; exact Nat.le_refl _)
            (fun j hj => ⟨hmr.at_ j hj, hmr.one j hj⟩) hs hp (by rw [size_madeCells]; exact Nat.le_refl _) hnc d⟩
          simp only [execOp, e1, e2, Sem.run_bind, hrun, Result.andThen_ok, Sem.run_pure]
        · cases h
      · cases h
    · cases h
  · rename_i args argTypes
    split at h
    · rename_i s x ts tx hargs htys
      split at h
      · rename_i e' av b hts hs hx
        split at h
        · rename_i ys i z htl hi hz
          have ea : args = #[s, x] := by apply Array.ext'; simpa using hargs
          have et : argTypes = #[ts, tx] := by apply Array.ext'; simpa using htys
          subst ea; subst et
          have key : ∀ v w', (Builtin.append_ #[ts, tx] ty #[a.eval s, a.eval x]).run P w = .ok v w' → (execOp a.eval { dst := dst, op := .call { callee := .builtin .append, args := #[s, x], argTypes := #[ts, tx] }, type := ty, pos := pos, after := after, guard := guard }).run P w = .ok (.value v) w' := by
            intro v w' hl
            simp only [execOp, resolve, Sem.run_bind, Sem.run_pure, Result.andThen_ok, invoke, builtin, List.map_toArray, List.map_cons, List.map_nil, hl]
          obtain ⟨zv, hzr, hzc⟩ := zero_sound (M := G.mem w) (w := w) hz
          have hzz : i.zero = some zv := by
            simp only [zeroValue, Sem.run_bind, run_typeInfo' hi, Result.andThen_ok] at hzr
            cases hiz : i.zero with
            | none => rw [hiz] at hzr; simp at hzr
            | some q => rw [hiz] at hzr; simp at hzr; rw [hzr]
          have hsz : sizeT P e = some i.size := by simp [sizeT, hi]
          split at h
          · -- nil
            split at h
            · rename_i hcond
              obtain ⟨rfl, hpos, hby, h63, hp, hzl⟩ := hcond
              injection h with h; subst h
              obtain ⟨du, news, hu, hdu, hlen, hfc, hnl, hally, hnr⟩ := tail_cells rfl htl (he.opd hx) hts hsz hp
              have hfy := flat_len _ hally
              have hv : a.eval s = .slice none 0 0 := by
                have := he.opd hs
                generalize a.eval s = q at this
                cases this; rfl
              have hrun := app_grow (ty := ty) hts hu hdu hi hzz (a := none) (n := 0) (cap := 0) (olds := []) hlen (hfc w.drew rfl) rfl (by omega) (by omega) (by rw [Nat.zero_add]; exact hby)
              rw [← hv] at hrun
              have hge := grownCap_ge w (0 + ys.length) 0 e'
              obtain ⟨C, hC⟩ : ∃ C, C = grownCap w (0 + ys.length) 0 e' := ⟨_, rfl⟩
              rw [← hC] at hrun hge
              obtain ⟨cs, hcs⟩ : ∃ cs, cs = ([] ++ news ++ (Builtin.zeroCells zv.cells (C - (0 + ys.length))).toList).toArray := ⟨_, rfl⟩
              rw [← hcs] at hrun
              have hzs : zv.cells.size = i.size := by rw [hzc.size, hzl]
              have hsize : cs.size = C * i.size := by
                rw [hcs]
                simp only [List.nil_append, List.size_toArray, List.length_append, Array.length_toList, size_zeroCells, hzs, hnl, ← Nat.add_mul]
                congr 1; omega
              have hle : ys.length * i.size ≤ C * i.size := Nat.mul_le_mul_right _ (by omega)
              have hget : ∀ j, j < ys.length * i.size → cs.getD j undef = news.getD j undef := by
                intro j hj
                rw [hcs]
                simp only [List.nil_append, Array.getD_eq_getD_getElem?, List.getElem?_toArray, List.getD_eq_getElem?_getD]
                rw [List.getElem?_append_left (by omega)]
              have hd := done_sl (sz := i.size) (cap := C) (len := ys.length) g hH ow (w' := w.drew.alloc (.cells cs e')) (((Below.refl _ _).drew).alloc (Nat.le_refl _) _) (xs := flat ys) (heap_alloc_new w.drew _) (by rw [hfy, hsize]; exact hle)
                (fun j hj => by rw [hfy] at hj; rw [hget j hj]; exact hnr j (by rw [hnl]; exact hj)) hsz hp (by rw [hsize]; exact Nat.le_refl _) (by omega) d
              rw [Nat.zero_add] at hrun
              exact ⟨_, _, _, key _ _ hrun, hd⟩
            · cases h
          · -- a list that is written into
            rename_i e'' id off len
            split at h
            · rename_i k hk
              split at h
              · rename_i hcond
                obtain ⟨h1, h2, h3, h4, hkpos, hlk, hby, h63, hp, hzl⟩ := hcond
                subst h1; subst h2; subst h4
                injection h with h; subst h
                obtain ⟨du, news, hu, hdu, hlen, hfc, hnl, hally, hnr⟩ := tail_cells rfl htl (he.opd hx) hts hsz hp
                have hfy := flat_len _ hally
                have hkne : k.cs ≠ [] := by intro e; rw [e] at hkpos; exact absurd hkpos (Nat.not_lt_zero _)
                have hone : ∀ u ∈ news, u.oneCell' = true := by
                  intro q hq
                  obtain ⟨j, hj, rfl⟩ := List.mem_iff_getElem.1 hq
                  have := (hnr j hj).2
                  simpa [List.getD_eq_getElem?_getD, List.getElem?_eq_getElem hj] using this
                have rs := he.opd hs
                generalize hvv : a.eval s = q at rs key
                cases rs with
                | sl _ _ _ _ b cap sz hf hsz' hz' hb hl =>
                obtain rfl : i.size = sz := by rw [hsz] at hsz'; exact Option.some.inj hsz'
                have hf : G.f id = some b := hf
                obtain ⟨ds, hd, hds, hbs, hrep, hone0⟩ := hH.blk id b k hf hk
                rw [h3] at hd
                have hb : 0 + cap * i.size ≤ G.bs b := hb
                have hbs : ds.size = G.bs b := hbs
                obtain ⟨olds, ho⟩ : ∃ olds, olds = ds.toList.take (len * i.size) := ⟨_, rfl⟩
                have hlc : len * i.size ≤ cap * i.size := Nat.mul_le_mul_right _ hl
                have hol : olds.length = len * i.size := by rw [ho, List.length_take, Array.length_toList]; omega
                have hog : ∀ j, j < len * i.size → olds.getD j undef = ds.getD j undef := by
                  intro j hj
                  rw [ho]
                  simp only [List.getD_eq_getElem?_getD, List.getElem?_take, if_pos hj, Array.getElem?_toList, Array.getD_eq_getD_getElem?]
                have htk : (k.cs.take (len * i.size)).length = len * i.size := by rw [List.length_take]; omega
                have hxl : (k.cs.take (len * i.size) ++ flat ys).length = (len + ys.length) * i.size := by rw [List.length_append, htk, hfy, Nat.add_mul]
                have hcat : ∀ j, j < (len + ys.length) * i.size → Rep P (G.mem w) ((k.cs.take (len * i.size) ++ flat ys).getD j .undef) ((olds ++ news).getD j undef) ∧ ((olds ++ news).getD j undef).oneCell' = true := by
                  intro j hj
                  rw [Nat.add_mul] at hj
                  by_cases hlt : j < len * i.size
                  · have e1 : (k.cs.take (len * i.size) ++ flat ys).getD j .undef = k.cs.getD j .undef := by
                      simp only [List.getD_eq_getElem?_getD]
                      rw [List.getElem?_append_left (by omega), List.getElem?_take, if_pos hlt]
                    have e2 : (olds ++ news).getD j undef = ds.getD j undef := by
                      rw [← hog j hlt]
                      simp only [List.getD_eq_getElem?_getD]
                      rw [List.getElem?_append_left (by omega)]
                    rw [e1, e2]
                    exact ⟨hrep j (by omega), hone0 j (by omega)⟩
                  · have := hnr (j - len * i.size) (by omega)
                    simp only [List.getD_eq_getElem?_getD] at this ⊢
                    rw [List.getElem?_append_right (by omega), List.getElem?_append_right (by omega), htk, hol]
                    exact this
                by_cases hroom : len + ys.length ≤ cap
                · have hle : (len + ys.length) * i.size ≤ cap * i.size := Nat.mul_le_mul_right _ hroom
                  have hfit : len * i.size + news.length ≤ ds.size := by rw [hnl, ← Nat.add_mul]; omega
                  have hrun := app_room (ty := ty) hts hu hdu hi (n := len) hd hlen (hfc w rfl) hone hroom hfit
                  rw [← ho] at hrun
                  obtain ⟨es, hes⟩ : ∃ es, es = (olds ++ news ++ ds.toList.drop (len * i.size + news.length)).toArray := ⟨_, rfl⟩
                  rw [← hes] at hrun
                  have hess : es.size = ds.size := by
                    rw [hes]
                    simp only [List.size_toArray, List.length_append, List.length_drop, Array.length_toList, hol]
                    omega
                  have hget : ∀ j, j < (len + ys.length) * i.size → es.getD j undef = (olds ++ news).getD j undef := by
                    intro j hj
                    rw [hes]
                    simp only [Array.getD_eq_getD_getElem?, List.getElem?_toArray, List.getD_eq_getElem?_getD]
                    rw [List.getElem?_append_left (by rw [List.length_append, hol, hnl, ← Nat.add_mul]; exact hj)]
                  have hdn := done_alias (sz := i.size) (cap := cap) (len := len + ys.length) (xs := k.cs.take (len * i.size) ++ flat ys) (es := es) g hH ow hf hk hkne (by rw [hess]; exact hbs) (by rw [hxl, hess]; omega) (fun j hj => by rw [hxl] at hj; rw [hget j hj]; exact hcat j hj) (by rw [h3]; exact hsz) hp (by omega) hroom d
                  rw [h3] at hdn
                  exact ⟨_, _, _, key _ _ hrun, hdn⟩
                · have hfo : (Builtin.firstCells i.size len (.slice (some ⟨b, 0, none⟩) len cap)).run P w.drew = .ok olds.toArray w.drew := by
                    refine run_firstCells_some w.drew i.size len _ _ _ olds hol ?_
                    intro j q hq
                    have hj : j < len * i.size := by rw [← hol]; exact (List.getElem?_eq_some_iff.1 hq).1
                    rw [add_addr, Nat.zero_add]
                    have hjd : j < ds.size := by omega
                    have e1 : w.cell? ⟨b, j, none⟩ = some ds[j] := by simp [World.cell?, hd, hjd]
                    show w.cell? ⟨b, j, none⟩ = some q
                    rw [e1, ← hq, ho, List.getElem?_take, if_pos hj, Array.getElem?_toList, Array.getElem?_eq_getElem hjd]
                  have hrun := app_grow (ty := ty) hts hu hdu hi hzz (a := some ⟨b, 0, none⟩) (n := len) (cap := cap) (olds := olds) hlen (hfc w.drew rfl) hfo (by omega) h63 hby
                  have hge := grownCap_ge w (len + ys.length) cap e''
                  obtain ⟨C, hC⟩ : ∃ C, C = grownCap w (len + ys.length) cap e'' := ⟨_, rfl⟩
                  rw [← hC] at hrun hge
                  obtain ⟨cs, hcs⟩ : ∃ cs, cs = (olds ++ news ++ (Builtin.zeroCells zv.cells (C - (len + ys.length))).toList).toArray := ⟨_, rfl⟩
                  rw [← hcs] at hrun
                  have hzs : zv.cells.size = i.size := by rw [hzc.size, hzl]
                  have hsize : cs.size = C * i.size := by
                    rw [hcs]
                    simp only [List.size_toArray, List.length_append, Array.length_toList, size_zeroCells, hzs, hnl, hol, ← Nat.add_mul]
                    congr 1; omega
                  have hle : (len + ys.length) * i.size ≤ C * i.size := Nat.mul_le_mul_right _ hge
                  have hget : ∀ j, j < (len + ys.length) * i.size → cs.getD j undef = (olds ++ news).getD j undef := by
                    intro j hj
                    rw [hcs]
                    simp only [Array.getD_eq_getD_getElem?, List.getElem?_toArray, List.getD_eq_getElem?_getD]
                    rw [List.getElem?_append_left (by rw [List.length_append, hol, hnl, ← Nat.add_mul]; exact hj)]
                  have hk1 := kill_heap hH hk
                  have ow1 := kill_owns ow hk
                  rw [h3] at hk1 ow1
                  have hdn := done_sl (sz := i.size) (cap := C) (len := len + ys.length) g hk1 ow1 (w' := w.drew.alloc (.cells cs e'')) (((Below.refl _ _).drew).alloc (Nat.le_refl _) _) (xs := k.cs.take (len * i.size) ++ flat ys) (heap_alloc_new w.drew _) (by rw [hxl, hsize]; exact hle)
                    (fun j hj => by rw [hxl] at hj; rw [hget j hj]; exact hcat j hj) hsz hp (by rw [hsize]; exact Nat.le_refl _) hge d
                  rw [List.length_set] at hdn
                  exact ⟨_, _, _, key _ _ hrun, hdn⟩
              · cases h
            · cases h
          · cases h
        · cases h
      · cases h
    · cases h
  · cases h

end
end Go.Proofs.Ytnajopkaepjncaa.Am
