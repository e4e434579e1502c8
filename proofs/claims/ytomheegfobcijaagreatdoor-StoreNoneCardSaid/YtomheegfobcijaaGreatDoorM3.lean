/- The abstract machine is right: lists that are written into. -/
import Derived.Test.YtomheegfobcijaaGreatDoorM2
/- The abstract machine is right: lists that are written into. -/
namespace Go.Proofs.YtomheegfobcijaaGreatDoor.Am
set_option linter.unusedVariables false
set_option linter.unusedSimpArgs false
open Go.RowKit

section
variable {P : Program} {w : World}

/-! ### a new block, however it was made -/
theorem mk_grow {G : Gh} {w' : World} (hb : Below w.heap.size w w') {id : Nat} (hid : G.f id = none) (n : Nat) : Grow G w (G.map id w.heap.size n) w' where
  below := hb
  lim := fun _ _ => rfl
  owner := fun _ _ => rfl
  bs := fun b hb => upd_ne _ _ (by omega)
  f := fun i b h => by
    show upd G.f id _ i = _
    rw [upd_ne _ _ (by rintro rfl; rw [hid] at h; cases h)]; exact h
  fnew := fun i b h => by
    change upd G.f id (some w.heap.size) i = some b at h
    by_cases hi : i = id
    · subst hi; rw [upd_same] at h; injection h with h; exact .inr ⟨hid, by omega⟩
    · rw [upd_ne _ _ hi] at h; exact .inl h
theorem mk_gok {G : Gh} (g : GOk G w) {w' : World} (hb : Below w.heap.size w w') (hs : w.heap.size < w'.heap.size) {id : Nat} (hid : G.f id = none) (n : Nat) : GOk (G.map id w.heap.size n) w' where
  fin := fun i b h => by
    change upd G.f id (some w.heap.size) i = some b at h
    by_cases hi : i = id
    · subst hi; rw [upd_same] at h; injection h with h; subst h
      obtain ⟨h1, h2, h3⟩ := g.new w.heap.size (Nat.le_refl _)
      exact ⟨hs, h2⟩
    · rw [upd_ne _ _ hi] at h
      obtain ⟨h1, h2⟩ := g.fin i b h
      exact ⟨by omega, h2⟩
  new := fun b hb => by
    obtain ⟨h1, h2, h3⟩ := g.new b (by omega)
    exact ⟨h1, h2, by show upd _ _ _ b = 0; rw [upd_ne _ _ (by omega)]; exact h3⟩
  held := ((mk_grow hb hid n).ext g).held g.held
theorem mk_heap {G : Gh} (g : GOk G w) {w' : World} (hb : Below w.heap.size w w') {id : Nat} (hid : G.f id = none) {xs : List AV} {cs : Array Value} {e : TypeId} (hn : w'.heap[w.heap.size]? = some (.cells cs e (0, 0))) (hl : xs.length ≤ cs.size)
    (hr : ∀ j, j < xs.length → Rep P (G.mem w) (xs.getD j .undef) (cs.getD j undef) ∧ (cs.getD j undef).oneCell' = true) {H : List (Option Blk)} (r : HeapRel P G H w) (hH : H[id]? = some (some ⟨e, xs⟩)) (hke : Nat.beq e LOOP = false) :
    HeapRel P (G.map id w.heap.size cs.size) H w' := by
  have split_ : ∀ i b, (G.map id w.heap.size cs.size).f i = some b → (i = id ∧ b = w.heap.size) ∨ (i ≠ id ∧ G.f i = some b) := by
    intro i b h
    change upd G.f id (some w.heap.size) i = some b at h
    by_cases hi : i = id
    · subst hi; rw [upd_same] at h; injection h with h; exact .inl ⟨rfl, h.symm⟩
    · rw [upd_ne _ _ hi] at h; exact .inr ⟨hi, h⟩
  have gr := mk_grow hb hid cs.size
  refine ⟨?_, ?_, ?_, ?_⟩
  · intro i b h
    rcases split_ i b h with ⟨rfl, rfl⟩ | ⟨_, h⟩
    · exact ⟨_, hH⟩
    · exact r.dom i b h
  · intro i b k h hk
    rcases split_ i b h with ⟨rfl, rfl⟩ | ⟨_, h⟩
    · rw [hH] at hk; injection hk with hk; injection hk with hk; subst hk
      exact BlkAt.cells ⟨cs, hn, hl, (by show cs.size = upd G.bs w.heap.size cs.size w.heap.size; rw [upd_same]), fun j hj => (gr.ext g).rep (hr j hj).1, fun j hj => (hr j hj).2⟩ hke
    · exact (r.blk i b k h hk).grow gr g (g.fin i b h).1
  · intro i j b k l h1 h2 hk hl n1 n2
    rcases split_ i b h1 with ⟨q1, q2⟩ | ⟨_, q1⟩ <;> rcases split_ j b h2 with ⟨q3, q4⟩ | ⟨_, q3⟩
    · rw [q1, q3]
    · have := (g.fin j _ q3).1; omega
    · have := (g.fin i _ q1).1; omega
    · exact r.inj i j b k l q1 q3 hk hl n1 n2
  · intro i b k h hk hn
    rcases split_ i b h with ⟨_, rfl⟩ | ⟨_, h⟩
    · exact fun _ => (g.new _ (Nat.le_refl _)).1
    · exact r.lim i b k h hk hn

/-- A block that is dead. -/
theorem kill_heap {G : Gh} {H : List (Option Blk)} (r : HeapRel P G H w) {id : Nat} {k : Blk} (hk : H[id]? = some (some k)) (hke : Nat.beq k.e LOOP = false) : HeapRel P G (H.set id (some ⟨k.e, []⟩)) w := by
  have hlt : id < H.length := (List.getElem?_eq_some_iff.1 hk).1
  have hset : ∀ j q, (H.set id (some ⟨k.e, []⟩))[j]? = some (some q) → (j = id ∧ q = ⟨k.e, []⟩) ∨ (j ≠ id ∧ H[j]? = some (some q)) := by
    intro j q hj
    by_cases hji : j = id
    · subst hji
      rw [List.getElem?_set_self hlt] at hj
      injection hj with hj; injection hj with hj
      exact .inl ⟨rfl, hj.symm⟩
    · rw [List.getElem?_set_ne (fun e => hji e.symm)] at hj
      exact .inr ⟨hji, hj⟩
  refine ⟨fun i b h => (r.dom i b h).set _ _, fun i b q h hq => ?_, fun i j b q l h1 h2 h3 h4 n1 n2 => ?_, fun i b q h hq hn => ?_⟩
  · rcases hset i q hq with ⟨rfl, rfl⟩ | ⟨_, hq⟩
    · obtain ⟨ds, d1, d2, d3, d4, d5⟩ := (r.blk i b k h hk).1 hke
      exact BlkAt.cells ⟨ds, d1, Nat.zero_le _, d3, fun j hj => absurd hj (Nat.not_lt_zero _), fun j hj => absurd hj (Nat.not_lt_zero _)⟩ hke
    · exact r.blk i b q h hq
  · rcases hset i q h3 with ⟨_, rfl⟩ | ⟨_, h3⟩
    · exact absurd rfl n1
    · rcases hset j l h4 with ⟨_, rfl⟩ | ⟨_, h4⟩
      · exact absurd rfl n2
      · exact r.inj i j b q l h1 h2 h3 h4 n1 n2
  · rcases hset i q hq with ⟨_, rfl⟩ | ⟨_, hq⟩
    · exact absurd rfl hn
    · exact r.lim i b q h hq hn
theorem kill_owns {G : Gh} {env : List (Nat × AV)} {H : List (Option Blk)} {own : List Loc} {t : Nat → Value} (o : Owns P G env H own t w) {id : Nat} {k : Blk} (hk : H[id]? = some (some k)) : Owns P G env (H.set id (some ⟨k.e, []⟩)) own t w := by
  have hlt : id < H.length := (List.getElem?_eq_some_iff.1 hk).1
  refine ⟨o.slot, fun i off b q cs hm hf hq hb => ?_, fun i off hm => (o.dom i off hm).set _ _⟩
  by_cases hji : i = id
  · subst hji
    rw [List.getElem?_set_self hlt] at hq
    injection hq with hq; injection hq with hq
    subst hq
    intro e xs hx
    cases hx
  · rw [List.getElem?_set_ne (fun e => hji e.symm)] at hq
    exact o.cell i off b q cs hm hf hq hb
theorem more_heap {G : Gh} {H : List (Option Blk)} (r : HeapRel P G H w) (E : List (Option Blk)) : HeapRel P G (H ++ E) w := by
  refine ⟨fun i b hf => (r.dom i b hf).append _, fun i b k hf hk => ?_, fun i j b k l h1 h2 h3 h4 n1 n2 => ?_, fun i b k hf hk hn => ?_⟩
  · have := (r.dom i b hf).lt
    rw [List.getElem?_append_left this] at hk
    exact r.blk i b k hf hk
  · have q1 := (r.dom i b h1).lt
    have q2 := (r.dom j b h2).lt
    rw [List.getElem?_append_left q1] at h3
    rw [List.getElem?_append_left q2] at h4
    exact r.inj i j b k l h1 h2 h3 h4 n1 n2
  · have := (r.dom i b hf).lt
    rw [List.getElem?_append_left this] at hk
    exact r.lim i b k hf hk hn
theorem more_owns {G : Gh} {env : List (Nat × AV)} {H : List (Option Blk)} {own : List Loc} {t : Nat → Value} (r : HeapRel P G H w) (o : Owns P G env H own t w) (E : List (Option Blk)) : Owns P G env (H ++ E) own t w :=
  ⟨o.slot, fun i off b k cs hm hf hk hb => by
      have := (r.dom i b hf).lt
      rw [List.getElem?_append_left this] at hk
      exact o.cell i off b k cs hm hf hk hb, fun i off hm => (o.dom i off hm).append _⟩

/-- A list in a new block of the machine's. -/
theorem done_sl {G : Gh} {env : List (Nat × AV)} {H : List (Option Blk)} {own : List Loc} {t : Nat → Value} (g : GOk G w) (h : HeapRel P G H w) (o : Owns P G env H own t w) {w' : World} (hbel : Below w.heap.size w w') {xs : List AV} {cs : Array Value} {e : TypeId} {len cap sz : Nat}
    (hn : w'.heap[w.heap.size]? = some (.cells cs e (0, 0))) (hl : xs.length ≤ cs.size) (hr : ∀ j, j < xs.length → Rep P (G.mem w) (xs.getD j .undef) (cs.getD j undef) ∧ (cs.getD j undef).oneCell' = true)
    (hs : sizeT P e = some sz) (hz : 0 < sz) (hcap : cap * sz ≤ cs.size) (hlen : len ≤ cap) (hke : Nat.beq e LOOP = false) (d : Nat) :
    Done P G w env t ⟨.sl e H.length 0 len, H ++ [some ⟨e, xs⟩], own, false⟩ d (.slice (some ⟨w.heap.size, 0, none⟩) len cap) w' (G.map H.length w.heap.size cs.size) := by
  have hid : G.f H.length = none := by
    cases hf : G.f H.length with
    | none => rfl
    | some b => have := (h.dom _ _ hf).lt; omega
  have hsz : w.heap.size < w'.heap.size := (Array.getElem?_eq_some_iff.1 hn).1
  have gr := mk_grow hbel hid cs.size
  have h1 := more_heap h [some ⟨e, xs⟩]
  have o1 := more_owns h o [some ⟨e, xs⟩]
  refine ⟨gr.ext g, mk_gok g hbel hsz hid _, mk_heap g hbel hid hn hl hr h1 (by rw [List.getElem?_append_right (Nat.le_refl _)]; simp) hke, ?_, fun s _ hs' => (o1.slot s hs').grow gr, ?_, fun h => (by cases h), fun i off hm => (o1.dom i off hm).mono gr.f⟩
  · refine .sl e _ 0 len _ cap sz (upd_same _ _ _) hs hz ?_ hlen
    show 0 + cap * sz ≤ upd G.bs w.heap.size cs.size w.heap.size
    rw [upd_same]; omega
  · intro id' off b k cs' hm hf hk hb
    by_cases hi : id' = H.length
    · have := (o.dom id' off hm).lt; omega
    · change upd G.f H.length (some w.heap.size) id' = some b at hf
      rw [upd_ne _ _ hi] at hf
      have hlt := (g.fin id' b hf).1
      rw [gr.below.block b hlt] at hb
      exact (o1.cell id' off b k cs' hm hf hk hb).grow gr

/-- Another name of a block whose old one is dead; it is written behind its end. -/
theorem done_alias {G : Gh} {env : List (Nat × AV)} {H : List (Option Blk)} {own : List Loc} {t : Nat → Value} (g : GOk G w) (h : HeapRel P G H w) (o : Owns P G env H own t w) {id b : Nat} (hf : G.f id = some b) (hlo : G.lo ≤ id) {k : Blk} (hk : H[id]? = some (some k)) (hkne : k.cs ≠ []) {xs : List AV} {es : Array Value} {len cap sz : Nat}
    (hes : es.size = G.bs b) (hl : xs.length ≤ es.size) (hr : ∀ j, j < xs.length → Rep P (G.mem w) (xs.getD j .undef) (es.getD j undef) ∧ (es.getD j undef).oneCell' = true)
    (hs : sizeT P k.e = some sz) (hz : 0 < sz) (hcap : cap * sz ≤ G.bs b) (hlen : len ≤ cap) (hke : Nat.beq k.e LOOP = false) (d : Nat) :
    Done P G w env t ⟨.sl k.e H.length 0 len, H.set id (some ⟨k.e, []⟩) ++ [some ⟨k.e, xs⟩], own, false⟩ d (.slice (some ⟨b, 0, none⟩) len cap) (w.setRow b es) { G with f := upd G.f H.length (some b) } := by
  have hid : G.f H.length = none := by
    cases hf : G.f H.length with
    | none => rfl
    | some b => have := (h.dom _ _ hf).lt; omega
  obtain ⟨ds, hd, hsz, hbs, hrep, hone⟩ := (h.blk id b k hf hk).1 hke
  have hlt : id < H.length := (List.getElem?_eq_some_iff.1 hk).1
  have hext0 := store_ext g hf hlo (h.lim id b k hf hk hkne (fz_cells hke)) es
  have hgok0 := store_gok g b es hext0
  have hnew : (w.setRow b es).heap[b]? = some (.cells es k.e (0, 0)) := setRow_heap w b ds es k.e (0, 0) hd
  have hoth : ∀ q, q ≠ b → (w.setRow b es).heap[q]? = w.heap[q]? := fun q hq => setRow_other w b q es hq
  have hfG : ∀ i q, upd G.f H.length (some b) i = some q → (i = H.length ∧ q = b) ∨ (i ≠ H.length ∧ G.f i = some q) := by
    intro i q hi
    by_cases hh : i = H.length
    · subst hh; rw [upd_same] at hi; injection hi with hi; exact .inl ⟨rfl, hi.symm⟩
    · rw [upd_ne _ _ hh] at hi; exact .inr ⟨hh, hi⟩
  have hext : Ext G w { G with f := upd G.f H.length (some b) } (w.setRow b es) := by
    refine ⟨hext0.os, hext0.tape, hext0.output, hext0.size, hext0.prot, fun i q hi => ?_, hext0.bs, fun q hq hn => ?_, rfl⟩
    · show upd G.f H.length (some b) i = some q
      rw [upd_ne _ _ (by rintro rfl; rw [hid] at hi; cases hi)]; exact hi
    · obtain ⟨a1, a2, a3⟩ := hext0.foreign q hq hn
      have hlb := h.lim id b k hf hk hkne (fz_cells hke)
      refine ⟨a1, a2, ?_, fun i hi => (hfG i q hi).elim (fun e => absurd (.inl ⟨⟨id, hlo, e.2 ▸ hf⟩, e.2 ▸ hlb⟩) hn) fun e => e.2⟩
      rintro (⟨⟨i, hlo', hi⟩, hl⟩ | ho)
      · rcases hfG i q hi with ⟨_, rfl⟩ | ⟨_, hi⟩
        · exact hn (.inl ⟨⟨id, hlo, hf⟩, hl⟩)
        · exact hn (.inl ⟨⟨i, hlo', hi⟩, hl⟩)
      · exact hn (.inr ho)
  have hgok : GOk { G with f := upd G.f H.length (some b) } (w.setRow b es) := by
    refine ⟨fun i q hi => ?_, hgok0.new, hext.held g.held⟩
    rcases hfG i q hi with ⟨_, rfl⟩ | ⟨_, hi⟩
    · exact hgok0.fin id q hf
    · exact hgok0.fin i q hi
  -- the blocks behind it
  have hH : ∀ i q, (H.set id (some ⟨k.e, []⟩) ++ [some ⟨k.e, xs⟩])[i]? = some (some q) → (i = H.length ∧ q = ⟨k.e, xs⟩) ∨ (i ≠ H.length ∧ i = id ∧ q = ⟨k.e, []⟩) ∨ (i ≠ H.length ∧ i ≠ id ∧ H[i]? = some (some q)) := by
    intro i q hi
    have hlen' : (H.set id (some ⟨k.e, []⟩)).length = H.length := List.length_set
    by_cases h1 : i < H.length
    · rw [List.getElem?_append_left (by rw [hlen']; exact h1)] at hi
      by_cases h2 : i = id
      · subst h2
        rw [List.getElem?_set_self hlt] at hi
        injection hi with hi; injection hi with hi
        exact .inr (.inl ⟨by omega, rfl, hi.symm⟩)
      · rw [List.getElem?_set_ne (fun e => h2 e.symm)] at hi
        exact .inr (.inr ⟨by omega, h2, hi⟩)
    · have h3 : i = H.length := by
        have := (List.getElem?_eq_some_iff.1 hi).1
        rw [List.length_append, hlen'] at this
        simp only [List.length_cons, List.length_nil] at this
        omega
      subst h3
      rw [List.getElem?_append_right (by rw [hlen']; exact Nat.le_refl _), hlen', Nat.sub_self] at hi
      injection hi with hi; injection hi with hi
      exact .inl ⟨rfl, hi.symm⟩
  have hdead : ∀ i q k', G.f i = some q → H[i]? = some (some k') → i ≠ id → k'.cs ≠ [] → q ≠ b := by
    intro i q k' h1 h2 h3 h4 e
    subst e
    exact h3 (h.inj i id q k' k h1 hf h2 hk h4 hkne)
  have hheap : HeapRel P { G with f := upd G.f H.length (some b) } (H.set id (some ⟨k.e, []⟩) ++ [some ⟨k.e, xs⟩]) (w.setRow b es) := by
    have hnil : ∀ k' : Blk, k'.cs = [] → k'.e = k.e → BlkAt P ((Gh.mk G.lim (upd G.f H.length (some b)) G.bs G.owner G.lo).mem (w.setRow b es)) (w.setRow b es) b k' := by
      intro k' h1 h2
      exact BlkAt.cells ⟨es, by rw [h2]; exact hnew, by rw [h1]; exact Nat.zero_le _, hes, fun j hj => by rw [h1] at hj; exact absurd hj (Nat.not_lt_zero _), fun j hj => by rw [h1] at hj; exact absurd hj (Nat.not_lt_zero _)⟩ (by rw [h2]; exact hke)
    refine ⟨?_, ?_, ?_, ?_⟩
    · intro i q hi
      rcases hfG i q hi with ⟨rfl, rfl⟩ | ⟨_, hi⟩
      · refine ⟨⟨k.e, xs⟩, ?_⟩
        rw [List.getElem?_append_right (by rw [List.length_set]; exact Nat.le_refl _), List.length_set, Nat.sub_self]; rfl
      · exact ((h.dom i q hi).set _ _).append _
    · intro i q k' hi hk'
      rcases hfG i q hi with ⟨rfl, rfl⟩ | ⟨hne, hi2⟩
      · rcases hH _ k' hk' with ⟨_, rfl⟩ | ⟨hn, _⟩ | ⟨hn, _⟩
        · exact BlkAt.cells ⟨es, hnew, hl, hes, fun j hj => hext.rep (hr j hj).1, fun j hj => (hr j hj).2⟩ hke
        · exact absurd rfl hn
        · exact absurd rfl hn
      · rcases hH _ k' hk' with ⟨hn, _⟩ | ⟨_, rfl, rfl⟩ | ⟨_, hni, hk'⟩
        · exact absurd hn hne
        · rw [hf] at hi2; injection hi2 with hi2; subst hi2
          exact hnil _ rfl rfl
        · have hB := h.blk i q k' hi2 hk'
          by_cases hqb : q = b
          · subst hqb
            have hn : k'.cs = [] := by
              rcases List.eq_nil_or_concat k'.cs with h | ⟨_, _, h⟩
              · exact h
              · exact absurd rfl (hdead i q k' hi2 hk' hni (by rw [h]; simp))
            obtain ⟨ds', q1, q2, q3, q4, q5⟩ := hB.1 (hB.cs_nil hn)
            rw [hd] at q1; injection q1 with q1; injection q1 with q1 q6
            exact hnil k' hn q6.symm
          · exact hB.to (hoth q hqb) rfl hext.mem
    · intro i j q k1 k2 h1 h2 h3 h4 n1 n2
      rcases hH i k1 h3 with ⟨a1, _⟩ | ⟨_, _, rfl⟩ | ⟨a1, a2, a3⟩
      · rcases hH j k2 h4 with ⟨b1, _⟩ | ⟨_, _, rfl⟩ | ⟨b1, b2, b3⟩
        · rw [a1, b1]
        · exact absurd rfl n2
        · exfalso
          rcases hfG i q h1 with ⟨_, rfl⟩ | ⟨hn, _⟩
          · rcases hfG j q h2 with ⟨hn, _⟩ | ⟨_, h2⟩
            · exact b1 hn
            · exact hdead j q k2 h2 b3 b2 n2 rfl
          · exact hn a1
      · exact absurd rfl n1
      · rcases hH j k2 h4 with ⟨b1, _⟩ | ⟨_, _, rfl⟩ | ⟨b1, b2, b3⟩
        · exfalso
          rcases hfG j q h2 with ⟨_, rfl⟩ | ⟨hn, _⟩
          · rcases hfG i q h1 with ⟨hn, _⟩ | ⟨_, h1⟩
            · exact a1 hn
            · exact hdead i q k1 h1 a3 a2 n1 rfl
          · exact hn b1
        · exact absurd rfl n2
        · rcases hfG i q h1 with ⟨hn, _⟩ | ⟨_, h1⟩
          · exact absurd hn a1
          · rcases hfG j q h2 with ⟨hn, _⟩ | ⟨_, h2⟩
            · exact absurd hn b1
            · exact h.inj i j q k1 k2 h1 h2 a3 b3 n1 n2
    · intro i q k' hi hk' hn
      rcases hfG i q hi with ⟨_, rfl⟩ | ⟨hne, hi2⟩
      · exact fun _ => h.lim id q k hf hk hkne (fz_cells hke)
      · rcases hH _ k' hk' with ⟨hn', _⟩ | ⟨_, _, rfl⟩ | ⟨_, hni, hk'⟩
        · exact absurd hn' hne
        · exact absurd rfl hn
        · exact h.lim i q k' hi2 hk' hn
  have hkeep : ∀ l y u, OwnAt P G w l y u → OwnAt P { G with f := upd G.f H.length (some b) } (w.setRow b es) l y u := fun l y u r => own_setRow g hf es l y u r
  refine ⟨hext, hgok, hheap, .sl k.e _ 0 len b cap sz (upd_same _ _ _) hs hz (by show 0 + cap * sz ≤ G.bs b; omega) hlen, fun s _ hm => hkeep _ _ _ (o.slot s hm), ?_, fun h => (by cases h), fun i off hm => (((o.dom i off hm).set _ _).append _).mono hext.f⟩
  intro i off q k' cs' hm hf' hk' hb'
  rcases hfG i q hf' with ⟨rfl, rfl⟩ | ⟨_, hf'⟩
  · have := (o.dom _ off hm).lt; omega
  · rcases hH i k' hk' with ⟨hn, _⟩ | ⟨_, _, rfl⟩ | ⟨_, hni, hk'⟩
    · have := (o.dom _ off hm).lt; omega
    · intro e xs hx; cases hx
    · by_cases hke : k'.cs = []
      · rw [hke]; intro e xs hx; cases hx
      · have hqb := hdead i q k' hf' hk' hni hke
        rw [hoth q hqb] at hb'
        exact hkeep _ _ _ (o.cell i off q k' cs' hm hf' hk' hb')

/-- Lists that are written into, made. -/
theorem newSl_sound {G : Gh} {env : List (Nat × AV)} {H : List (Option Blk)} {own : List Loc} {a : Act} {e : TypeId} {o : Oper} {r : Res} (g : GOk G w) (hH : HeapRel P G H w) (ow : Owns P G env H own (slotsOf a) w) (he : EnvRel P (G.mem w) env a) {lo : Nat} (hgl : G.lo ≤ lo) (hsl : okSl lo o.op env = true)
    (h : newSl P e o.op env H own = some r) (d : Nat) :
    ∃ v w' G', (execOp a.eval o).run P w = .ok (.value v) w' ∧ Done P G w env (slotsOf a) r d v w' G' := by
  obtain ⟨dst, op, ty, pos, after, guard⟩ := o
  simp only at h
  unfold newSl at h
  split at h
  · rename_i t len cap
    split at h
    · rename_i e' n c hu hn hcp
      split at h
      · rename_i n' c' i z hn' hc' hi hz
        split at h
        · rename_i hcond
          obtain ⟨hke, rfl, hnc, hby, hc, hp, hzl⟩ := hcond
          injection h with h; subst h
          obtain ⟨k1, e1⟩ := natA_spec hn' (he.opd hn)
          obtain ⟨k2, e2⟩ := natA_spec hc' (he.opd hcp)
          have hs : sizeT P e' = some i.size := by simp [sizeT, hi]
          obtain ⟨zv, hzr, hzc⟩ := zero_sound (M := G.mem w) (w := w) hz
          have hzz : i.zero = some zv := by
            simp only [zeroValue, Sem.run_bind, run_typeInfo' hi, Result.andThen_ok] at hzr
            cases hiz : i.zero with
            | none => rw [hiz] at hzr; simp at hzr
            | some q => rw [hiz] at hzr; simp at hzr; rw [hzr]
          have hrun := run_make (P := P) w t e' i zv hu hi hzz k1 k2 n' c' (by omega) (by omega) (by
            have : ((i.bytes * c' : Nat) : Int) ≤ 281474976710656 := by rw [Nat.mul_comm]; omega
            rwa [Int.natCast_mul] at this) (by omega)
          simp only [Int.toNat_natCast] at hrun
          have hmr := made_rep hzc hzl hp c'
          have hml : (rep c' z).length = c' * i.size := rep_length hzl c'
          refine ⟨_, _, _, ?_, done_sl (sz := i.size) (cap := c') g hH ow (w' := w.alloc (.cells (madeCells zv.cells (c' * i.size)) e')) ((Below.refl _ _).alloc (Nat.le_refl _) _) (xs := rep c' z) (alloc_heap_new w _) (by rw [hml, size_madeCells]; exact Nat.le_refl _)
            (fun j hj => ⟨hmr.at_ j hj, hmr.one j hj⟩) hs hp (by rw [size_madeCells]; exact Nat.le_refl _) hnc hke d⟩
          simp only [execOp, e1, e2, Sem.run_bind, hrun, Result.andThen_ok, Sem.run_pure]
        · cases h
      · cases h
    · cases h
  · rename_i args argTypes
    split at h
    · rename_i s x ts tx hargs htys
      split at h
      · rename_i e' av b hts hs hx
        split at h
        · rename_i ys i z htl hi hz
          have ea : args = #[s, x] := by apply Array.ext'; simpa using hargs
          have et : argTypes = #[ts, tx] := by apply Array.ext'; simpa using htys
          subst ea; subst et
          have key : ∀ v w', (Builtin.append_ #[ts, tx] ty #[a.eval s, a.eval x]).run P w = .ok v w' → (execOp a.eval { dst := dst, op := .call { callee := .builtin .append, args := #[s, x], argTypes := #[ts, tx] }, type := ty, pos := pos, after := after, guard := guard }).run P w = .ok (.value v) w' := by
            intro v w' hl
            simp only [execOp, resolve, Sem.run_bind, Sem.run_pure, Result.andThen_ok, invoke, builtin, List.map_toArray, List.map_cons, List.map_nil, hl]
          obtain ⟨zv, hzr, hzc⟩ := zero_sound (M := G.mem w) (w := w) hz
          have hzz : i.zero = some zv := by
            simp only [zeroValue, Sem.run_bind, run_typeInfo' hi, Result.andThen_ok] at hzr
            cases hiz : i.zero with
            | none => rw [hiz] at hzr; simp at hzr
            | some q => rw [hiz] at hzr; simp at hzr; rw [hzr]
          have hsz : sizeT P e = some i.size := by simp [sizeT, hi]
          split at h
          · -- nil
            split at h
            · rename_i hcond
              obtain ⟨hke, rfl, hpos, hby, h63, hp, hzl⟩ := hcond
              injection h with h; subst h
              obtain ⟨du, news, hu, hdu, hlen, hfc, hnl, hally, hnr⟩ := tail_cells rfl htl (he.opd hx) hts hsz hp
              have hfy := flat_len _ hally
              have hv : a.eval s = .slice none 0 0 := by
                have := he.opd hs
                generalize a.eval s = q at this
                cases this; rfl
              have hrun := app_grow (ty := ty) hts hu hdu hi hzz (a := none) (n := 0) (cap := 0) (olds := []) hlen (hfc w.drew rfl) rfl (by omega) (by omega) (by rw [Nat.zero_add]; exact hby)
              rw [← hv] at hrun
              have hge := grownCap_ge w (0 + ys.length) 0 e'
              obtain ⟨C, hC⟩ : ∃ C, C = grownCap w (0 + ys.length) 0 e' := ⟨_, rfl⟩
              rw [← hC] at hrun hge
              obtain ⟨cs, hcs⟩ : ∃ cs, cs = ([] ++ news ++ (Builtin.zeroCells zv.cells (C - (0 + ys.length))).toList).toArray := ⟨_, rfl⟩
              rw [← hcs] at hrun
              have hzs : zv.cells.size = i.size := by rw [hzc.size, hzl]
              have hsize : cs.size = C * i.size := by
                rw [hcs]
                simp only [List.nil_append, List.size_toArray, List.length_append, Array.length_toList, size_zeroCells, hzs, hnl, ← Nat.add_mul]
                congr 1; omega
              have hle : ys.length * i.size ≤ C * i.size := Nat.mul_le_mul_right _ (by omega)
              have hget : ∀ j, j < ys.length * i.size → cs.getD j undef = news.getD j undef := by
                intro j hj
                rw [hcs]
                simp only [List.nil_append, Array.getD_eq_getD_getElem?, List.getElem?_toArray, List.getD_eq_getElem?_getD]
                rw [List.getElem?_append_left (by omega)]
              have hd := done_sl (sz := i.size) (cap := C) (len := ys.length) g hH ow (w' := w.drew.alloc (.cells cs e')) (((Below.refl _ _).drew).alloc (Nat.le_refl _) _) (xs := flat ys) (heap_alloc_new w.drew _) (by rw [hfy, hsize]; exact hle)
                (fun j hj => by rw [hfy] at hj; rw [hget j hj]; exact hnr j (by rw [hnl]; exact hj)) hsz hp (by rw [hsize]; exact Nat.le_refl _) (by omega) hke d
              rw [Nat.zero_add] at hrun
              exact ⟨_, _, _, key _ _ hrun, hd⟩
            · cases h
          · -- a list that is written into
            rename_i e'' id off len
            split at h
            · rename_i k hk
              split at h
              · rename_i hcond
                obtain ⟨hke, h1, h2, h3, h4, hkpos, hlk, hby, h63, hp, hzl⟩ := hcond
                subst h1; subst h2; subst h4
                injection h with h; subst h
                obtain ⟨du, news, hu, hdu, hlen, hfc, hnl, hally, hnr⟩ := tail_cells rfl htl (he.opd hx) hts hsz hp
                have hfy := flat_len _ hally
                have hkne : k.cs ≠ [] := by intro e; rw [e] at hkpos; exact absurd hkpos (Nat.not_lt_zero _)
                have hone : ∀ u ∈ news, u.oneCell' = true := by
                  intro q hq
                  obtain ⟨j, hj, rfl⟩ := List.mem_iff_getElem.1 hq
                  have := (hnr j hj).2
                  simpa [List.getD_eq_getElem?_getD, List.getElem?_eq_getElem hj] using this
                have rs := he.opd hs
                generalize hvv : a.eval s = q at rs key
                cases rs with
                | sl _ _ _ _ b cap sz hf hsz' hz' hb hl =>
                obtain rfl : i.size = sz := by rw [hsz] at hsz'; exact Option.some.inj hsz'
                have hf : G.f id = some b := hf
                obtain ⟨ds, hd, hds, hbs, hrep, hone0⟩ := (hH.blk id b k hf hk).1 (by rw [h3]; exact hke)
                rw [h3] at hd
                have hb : 0 + cap * i.size ≤ G.bs b := hb
                have hbs : ds.size = G.bs b := hbs
                obtain ⟨olds, ho⟩ : ∃ olds, olds = ds.toList.take (len * i.size) := ⟨_, rfl⟩
                have hlc : len * i.size ≤ cap * i.size := Nat.mul_le_mul_right _ hl
                have hol : olds.length = len * i.size := by rw [ho, List.length_take, Array.length_toList]; omega
                have hog : ∀ j, j < len * i.size → olds.getD j undef = ds.getD j undef := by
                  intro j hj
                  rw [ho]
                  simp only [List.getD_eq_getElem?_getD, List.getElem?_take, if_pos hj, Array.getElem?_toList, Array.getD_eq_getD_getElem?]
                have htk : (k.cs.take (len * i.size)).length = len * i.size := by rw [List.length_take]; omega
                have hxl : (k.cs.take (len * i.size) ++ flat ys).length = (len + ys.length) * i.size := by rw [List.length_append, htk, hfy, Nat.add_mul]
                have hcat : ∀ j, j < (len + ys.length) * i.size → Rep P (G.mem w) ((k.cs.take (len * i.size) ++ flat ys).getD j .undef) ((olds ++ news).getD j undef) ∧ ((olds ++ news).getD j undef).oneCell' = true := by
                  intro j hj
                  rw [Nat.add_mul] at hj
                  by_cases hlt : j < len * i.size
                  · have e1 : (k.cs.take (len * i.size) ++ flat ys).getD j .undef = k.cs.getD j .undef := by
                      simp only [List.getD_eq_getElem?_getD]
                      rw [List.getElem?_append_left (by omega), List.getElem?_take, if_pos hlt]
                    have e2 : (olds ++ news).getD j undef = ds.getD j undef := by
                      rw [← hog j hlt]
                      simp only [List.getD_eq_getElem?_getD]
                      rw [List.getElem?_append_left (by omega)]
                    rw [e1, e2]
                    exact ⟨hrep j (by omega), hone0 j (by omega)⟩
                  · have := hnr (j - len * i.size) (by omega)
                    simp only [List.getD_eq_getElem?_getD] at this ⊢
                    rw [List.getElem?_append_right (by omega), List.getElem?_append_right (by omega), htk, hol]
                    exact this
                by_cases hroom : len + ys.length ≤ cap
                · have hle : (len + ys.length) * i.size ≤ cap * i.size := Nat.mul_le_mul_right _ hroom
                  have hfit : len * i.size + news.length ≤ ds.size := by rw [hnl, ← Nat.add_mul]; omega
                  have hrun := app_room (ty := ty) hts hu hdu hi (n := len) (.inl rfl) hd hlen (hfc w rfl) hone hroom hfit
                  rw [← ho] at hrun
                  obtain ⟨es, hes⟩ : ∃ es, es = (olds ++ news ++ ds.toList.drop (len * i.size + news.length)).toArray := ⟨_, rfl⟩
                  rw [← hes] at hrun
                  have hess : es.size = ds.size := by
                    rw [hes]
                    simp only [List.size_toArray, List.length_append, List.length_drop, Array.length_toList, hol]
                    omega
                  have hget : ∀ j, j < (len + ys.length) * i.size → es.getD j undef = (olds ++ news).getD j undef := by
                    intro j hj
                    rw [hes]
                    simp only [Array.getD_eq_getD_getElem?, List.getElem?_toArray, List.getD_eq_getElem?_getD]
                    rw [List.getElem?_append_left (by rw [List.length_append, hol, hnl, ← Nat.add_mul]; exact hj)]
                  have hidlo : G.lo ≤ id := by
                    have hq := hsl
                    unfold okSl at hq
                    simp only [hs] at hq
                    exact Nat.le_trans hgl (Nat.ble_eq.mp hq)
                  have hdn := done_alias (sz := i.size) (cap := cap) (len := len + ys.length) (xs := k.cs.take (len * i.size) ++ flat ys) (es := es) g hH ow hf hidlo hk hkne (by rw [hess]; exact hbs) (by rw [hxl, hess]; omega) (fun j hj => by rw [hxl] at hj; rw [hget j hj]; exact hcat j hj) (by rw [h3]; exact hsz) hp (by omega) hroom (by rw [h3]; exact hke) d
                  rw [h3] at hdn
                  exact ⟨_, _, _, key _ _ hrun, hdn⟩
                · have hfo : (Builtin.firstCells i.size len (.slice (some ⟨b, 0, none⟩) len cap)).run P w.drew = .ok olds.toArray w.drew := by
                    refine run_firstCells_some w.drew i.size len _ _ _ olds hol ?_
                    intro j q hq
                    have hj : j < len * i.size := by rw [← hol]; exact (List.getElem?_eq_some_iff.1 hq).1
                    rw [add_addr, Nat.zero_add]
                    have hjd : j < ds.size := by omega
                    have e1 : w.cell? ⟨b, j, none⟩ = some ds[j] := by simp [World.cell?, hd, hjd]
                    show w.cell? ⟨b, j, none⟩ = some q
                    rw [e1, ← hq, ho, List.getElem?_take, if_pos hj, Array.getElem?_toList, Array.getElem?_eq_getElem hjd]
                  have hrun := app_grow (ty := ty) hts hu hdu hi hzz (a := some ⟨b, 0, none⟩) (n := len) (cap := cap) (olds := olds) hlen (hfc w.drew rfl) hfo (by omega) h63 hby
                  have hge := grownCap_ge w (len + ys.length) cap e''
                  obtain ⟨C, hC⟩ : ∃ C, C = grownCap w (len + ys.length) cap e'' := ⟨_, rfl⟩
                  rw [← hC] at hrun hge
                  obtain ⟨cs, hcs⟩ : ∃ cs, cs = (olds ++ news ++ (Builtin.zeroCells zv.cells (C - (len + ys.length))).toList).toArray := ⟨_, rfl⟩
                  rw [← hcs] at hrun
                  have hzs : zv.cells.size = i.size := by rw [hzc.size, hzl]
                  have hsize : cs.size = C * i.size := by
                    rw [hcs]
                    simp only [List.size_toArray, List.length_append, Array.length_toList, size_zeroCells, hzs, hnl, hol, ← Nat.add_mul]
                    congr 1; omega
                  have hle : (len + ys.length) * i.size ≤ C * i.size := Nat.mul_le_mul_right _ hge
                  have hget : ∀ j, j < (len + ys.length) * i.size → cs.getD j undef = (olds ++ news).getD j undef := by
                    intro j hj
                    rw [hcs]
                    simp only [Array.getD_eq_getD_getElem?, List.getElem?_toArray, List.getD_eq_getElem?_getD]
                    rw [List.getElem?_append_left (by rw [List.length_append, hol, hnl, ← Nat.add_mul]; exact hj)]
                  have hk1 := kill_heap hH hk (by rw [h3]; exact hke)
                  have ow1 := kill_owns ow hk
                  rw [h3] at hk1 ow1
                  have hdn := done_sl (sz := i.size) (cap := C) (len := len + ys.length) g hk1 ow1 (w' := w.drew.alloc (.cells cs e'')) (((Below.refl _ _).drew).alloc (Nat.le_refl _) _) (xs := k.cs.take (len * i.size) ++ flat ys) (heap_alloc_new w.drew _) (by rw [hxl, hsize]; exact hle)
                    (fun j hj => by rw [hxl] at hj; rw [hget j hj]; exact hcat j hj) hsz hp (by rw [hsize]; exact Nat.le_refl _) hge hke d
                  rw [List.length_set] at hdn
                  exact ⟨_, _, _, key _ _ hrun, hdn⟩
              · cases h
            · cases h
          · cases h
        · cases h
      · cases h
    · cases h
  · cases h

end
end Go.Proofs.YtomheegfobcijaaGreatDoor.Am

/- The abstract machine is right, thirteenth part: an operation puts its value; calls. -/
namespace Go.Proofs.YtomheegfobcijaaGreatDoor.Am
set_option linter.unusedVariables false
set_option linter.unusedSimpArgs false
open Go.RowKit

/-- Which frame it is: one that may be left, a round of a loop over a function, one in which nothing is deferred. -/
inductive Fr where
  | frame (B : Nat)
  | round
  | bare
/-- May code run here that defers, or that loops over a function? -/
def okR (ro : Option Nat) (B : Fr) : Prop := ro = none ∧ B ≠ .bare

section
variable {P : Program} {w : World} {B : Fr}

/-- The marks of loops over functions among a frame's deferred calls: their blocks are empty. -/
def mark (r : Nat) : Deferred := { target := .collected r, args := #[] }
/-- A frame's deferred calls, as the machine has them: marks, and functions. -/
inductive DefRel (P : Program) (M : Mem) : List Deferred → List Nat → List (Nat × AV) → Prop
  | nil : DefRel P M [] [] []
  | mark {ds : List Deferred} {rs : List Nat} {l : List (Nat × AV)} (r : Nat) (h : DefRel P M ds rs l) : DefRel P M (mark r :: ds) (r :: rs) l
  | call {ds : List Deferred} {rs : List Nat} {l : List (Nat × AV)} (i : Nat) (g : FuncId) (cap : List AV) (vs : Array Value) (hv : Rep P M (.fn g cap) (.func (.func g) #[] vs)) (h : DefRel P M ds rs l) :
      DefRel P M ({ target := .fn (.func g) vs, args := #[] } :: ds) rs ((i, .fn g cap) :: l)
theorem DefRel.mono {M N : Mem} (hm : M.le N) {ds : List Deferred} {rs : List Nat} {l : List (Nat × AV)} (h : DefRel P M ds rs l) : DefRel P N ds rs l := by
  induction h with
  | nil => exact .nil
  | mark r _ ih => exact .mark r ih
  | call i g cap vs hv _ ih => exact .call i g cap vs (hv.mono hm) ih
def defsOf (x : AV) : Option (List (Nat × AV)) :=
  match x with
  | .undef => some []
  | .rcd _ _ l _ _ _ => some l
  | _ => none
/-- Nobody has a block. -/
def Free (G : Gh) (b : Nat) : Prop := ¬ Foot G b ∧ ¬ ∃ id, G.f id = some b
theorem Free.off {G G' : Gh} {b : Nat} (h : Free G b) (k : Off G G' b) : Free G' b := ⟨k.1, fun ⟨id, e⟩ => h.2 ⟨id, k.2 id e⟩⟩
def MarksOk (P : Program) (B : Fr) (G : Gh) (w : World) (nt : Nat) (x : AV) (ds : List Deferred) : Prop :=
  match B with
    | .frame B => nt ≤ DEF ∧ B ≤ w.heap.size ∧ ∃ (rs : List Nat) (l : List (Nat × AV)), defsOf x = some l ∧ DefRel P (G.mem w) ds rs l ∧ rs.Nodup ∧ ∀ r ∈ rs, B ≤ r ∧ w.heap[r]? = some (.deferred (some [])) ∧ Free G r
    | .round => True
    | .bare => ds = []
theorem MarksOk.nil {B nt : Nat} (G : Gh) {w : World} (hn : nt ≤ DEF) (h : B ≤ w.heap.size) : MarksOk P (.frame B) G w nt .undef [] := ⟨hn, h, [], [], rfl, .nil, List.nodup_nil, fun r h => by cases h⟩
theorem MarksOk.ext {B : Fr} {nt : Nat} {x : AV} {G G' : Gh} {w w' : World} {ds : List Deferred} (h : MarksOk P B G w nt x ds) (e : Ext G w G' w') : MarksOk P B G' w' nt x ds := by
  cases B with
  | round => trivial
  | bare => exact h
  | frame B =>
    obtain ⟨hn, h0, rs, l, h1, h2, h4, h3⟩ := h
    refine ⟨hn, Nat.le_trans h0 e.size, rs, l, h1, h2.mono e.mem, h4, fun r hr => ?_⟩
    obtain ⟨a, b, c⟩ := h3 r hr
    obtain ⟨d, _, f⟩ := e.foreign r (Array.getElem?_eq_some_iff.1 b).1 c.1
    exact ⟨a, d.trans b, c.off f⟩

structure Rel (P : Program) (B : Fr) (G : Gh) (nt : Nat) (st : St) (a : Act) (w : World) : Prop where
  ok : GOk G w
  heap : HeapRel P G st.H w
  own : Owns P G st.env st.H st.own (slotsOf a) w
  env : EnvRel P (G.mem w) st.env a
  size : a.tmps.size = nt
  defers : MarksOk P B G w nt (look st.env DEF) a.defers

theorem fresh_slot (l : List Loc) : ∃ d, Loc.slot d ∉ l := by
  have : ∀ l : List Loc, ∃ d, ∀ s, Loc.slot s ∈ l → s < d := by
    intro l
    induction l with
    | nil => exact ⟨0, fun s h => by cases h⟩
    | cons x r ih =>
      obtain ⟨d, hd⟩ := ih
      cases x with
      | slot s => exact ⟨max d (s + 1), fun q h => by
          rcases List.mem_cons.1 h with h | h
          · injection h with h; omega
          · have := hd q h; omega⟩
      | cell i o => exact ⟨d, fun q h => by
          rcases List.mem_cons.1 h with h | h
          · cases h
          · exact hd q h⟩
  obtain ⟨d, hd⟩ := this l
  exact ⟨d, fun h => by have := hd d h; omega⟩

theorem slots_put {a : Act} {d : Nat} {v : Value} (h : d < a.tmps.size) (s : Nat) : slotsOf (a.put (some d) v) s = if s = d then v else slotsOf a s := by
  unfold slotsOf Act.put
  simp only [Array.getD_eq_getD_getElem?]
  by_cases hs : s = d
  · subst hs; rw [if_pos rfl, Array.getElem?_setIfInBounds_self_of_lt h]; rfl
  · rw [if_neg hs, Array.getElem?_setIfInBounds_ne (fun e => hs e.symm)]
theorem look_cons (d : Nat) (x : AV) (env : List (Nat × AV)) (s : Nat) : look ((d, x) :: env) s = if s = d then x else look env s := by
  simp only [look]
  by_cases h : s = d
  · subst h; simp
  · rw [if_neg h]
    have : Nat.beq d s = false := by
      cases hb : Nat.beq d s with
      | false => rfl
      | true => exact absurd (Nat.eq_of_beq_eq_true hb).symm h
    rw [this]; rfl

theorem Done.owns {G G' : Gh} {w' : World} {env : List (Nat × AV)} {t : Nat → Value} {r : Res} {d : Nat} {v : Value} (h : Done P G w env t r d v w' G') (hd : Loc.slot d ∉ r.own) : Owns P G' env r.H r.own t w' :=
  ⟨fun s hs => h.slot s (by rintro rfl; exact hd hs) hs, h.cell, h.dom⟩

theorem MarksOk.put {B : Fr} {nt q : Nat} {v : AV} {env : List (Nat × AV)} {G : Gh} {w : World} {ds : List Deferred} (h : MarksOk P B G w nt (look env DEF) ds) (hq : q < nt) : MarksOk P B G w nt (look ((q, v) :: env) DEF) ds := by
  cases B with
  | round => trivial
  | bare => exact h
  | frame B =>
    have hne : ¬ DEF = q := fun e => by have := h.1; omega
    rw [look_cons, if_neg hne]; exact h
/-- The value is put; all stands as the machine has it. 'hd': what the operation has left is told for every slot that it may be put in. -/
theorem put_sound {nt : Nat} {st st' : St} {a : Act} {r : Res} {dst : Option Nat} {G G' : Gh} {w' : World} {v : Value} (hR : Rel P B G nt st a w) (hp : r.put nt st.env dst = some st') (d : Nat) (hdst : ∀ q, dst = some q → q = d) (hnone : dst = none → Loc.slot d ∉ r.own)
    (h : Done P G w st.env (slotsOf a) r d v w' G') : Rel P B G' nt st' (a.put dst v) w' ∧ Ext G w G' w' := by
  refine ⟨?_, h.ext⟩
  cases dst with
  | none =>
    simp only [Res.put, Option.some.injEq] at hp; subst hp
    exact ⟨h.ok, h.heap, h.owns (hnone rfl), fun s => h.ext.rep (hR.env s), hR.size, hR.defers.ext h.ext⟩
  | some q =>
    obtain rfl := hdst q rfl
    simp only [Res.put] at hp
    split at hp
    · rename_i hlt
      injection hp with hp; subst hp
      have hsz : q < a.tmps.size := by rw [hR.size]; exact hlt
      refine ⟨h.ok, h.heap, ⟨?_, ?_, ?_⟩, ?_, by simp [Act.put, hR.size], (hR.defers.ext h.ext).put hlt⟩
      · intro s hs
        rw [slots_put hsz, look_cons]
        by_cases hsq : s = q
        · subst hsq
          rw [if_pos rfl, if_pos rfl]
          cases hg : r.gives with
          | true => exact h.gives hg
          | false => simp only [hg, cond_false] at hs; exact absurd rfl (mem_drop.1 hs).2
        · rw [if_neg hsq, if_neg hsq]
          refine h.slot s hsq ?_
          cases hg : r.gives with
          | true =>
            simp only [hg, cond_true] at hs
            rcases mem_give.1 hs with e | ⟨e, _⟩
            · injection e with e; exact absurd e hsq
            · exact e
          | false => simp only [hg, cond_false] at hs; exact (mem_drop.1 hs).1
      · intro id off b k cs hm
        refine h.cell id off b k cs ?_
        cases hg : r.gives with
        | true =>
          simp only [hg, cond_true] at hm
          rcases mem_give.1 hm with e | ⟨e, _⟩
          · cases e
          · exact e
        | false => simp only [hg, cond_false] at hm; exact (mem_drop.1 hm).1
      · intro id off hm
        refine h.dom id off ?_
        cases hg : r.gives with
        | true =>
          simp only [hg, cond_true] at hm
          rcases mem_give.1 hm with e | ⟨e, _⟩
          · cases e
          · exact e
        | false => simp only [hg, cond_false] at hm; exact (mem_drop.1 hm).1
      · intro s
        have := slots_put (v := v) hsz s
        unfold slotsOf at this
        rw [this, look_cons]
        by_cases hsq : s = q
        · rw [if_pos hsq, if_pos hsq]; exact h.rep
        · rw [if_neg hsq, if_neg hsq]; exact h.ext.rep (hR.env s)
    · cases hp

/-! ### calls -/
def Gh.callee (G : Gh) : Gh := { G with owner := fun b => match G.owner b with | some (.cell i o) => some (.cell i o) | _ => none }
def Gh.back (G G' : Gh) : Gh := { G' with owner := fun b => match G.owner b with | some (.slot s) => some (.slot s) | _ => G'.owner b }

theorem callee_foot {G : Gh} {b : Nat} (h : Foot G.callee b) : Foot G b := by
  rcases h with h | h
  · exact .inl h
  · refine .inr ?_
    simp only [Gh.callee] at h
    split at h
    · rename_i e; rw [e]; rfl
    · cases h
theorem callee_gok {G : Gh} (g : GOk G w) : GOk G.callee w where
  fin := fun id b h => by
    obtain ⟨h1, h3⟩ := g.fin id b h
    exact ⟨h1, by simp only [Gh.callee, h3]⟩
  new := fun b hb => by
    obtain ⟨h1, h2, h3⟩ := g.new b hb
    exact ⟨h1, by simp only [Gh.callee, h2], h3⟩
  held := ⟨fun b hb => ⟨(g.held.lt b hb).1, fun h => (g.held.lt b hb).2 (callee_foot h)⟩, g.held.is⟩
theorem callee_own {G : Gh} {i o : Nat} {x : AV} {v : Value} (r : OwnAt P G w (.cell i o) x v) : OwnAt P G.callee w (.cell i o) x v := by
  intro e xs hx
  obtain ⟨sz, cells, h1, h2, h3, h4⟩ := r e xs hx
  exact ⟨sz, cells, h1, h2, h3, fun q hq => ⟨by simp only [Gh.callee, (h4 q hq).1], (h4 q hq).2⟩⟩

structure CellOwns (P : Program) (G : Gh) (H : List (Option Blk)) (own : List Loc) (w : World) : Prop where
  cell : ∀ id off b k cs, Loc.cell id off ∈ own → G.f id = some b → H[id]? = some (some k) → w.heap[b]? = some (.cells cs k.e (0, 0)) → OwnAt P G w (.cell id off) (k.cs.getD off .undef) (cs.getD off undef)
  dom : ∀ id off, Loc.cell id off ∈ own → Mapped G H id

/-- What a call leaves. -/
structure CallDone (P : Program) (G : Gh) (w : World) (out : Out) (v : Value) (w' : World) (G' : Gh) : Prop where
  ext : Ext G w G' w'
  ok : GOk G' w'
  heap : HeapRel P G' out.2.1 w'
  rep : Rep P (G'.mem w') out.1 v
  own : CellOwns P G' out.2.1 out.2.2 w'

def ArgsRep (P : Program) (M : Mem) (args : List AV) (vals : Array Value) : Prop := vals.size = args.length ∧ ∀ i, i < args.length → Rep P M (args.getD i .undef) (vals.getD i undef)
def CallSound (P : Program) (call : CallA) : Prop := ∀ f args H own out, call f args H own = some out → ∀ (G : Gh) (w : World) (vals : Array Value), G.lo ≤ call.lo → GOk G w → HeapRel P G H w → CellOwns P G H own w → ArgsRep P (G.mem w) args vals →
  Calls P f vals w fun e w' => ∃ v G', e = .returned v ∧ CallDone P G w out v w' G'

theorem back_done {G G' : Gh} {w' : World} {env : List (Nat × AV)} {H : List (Option Blk)} {own : List Loc} {t : Nat → Value} {out : Out} {v : Value} (g : GOk G w) (hH : HeapRel P G H w) (o : Owns P G env H own t w) (h : CallDone P G.callee w out v w' G') (d : Nat) :
    Done P G w env t ⟨out.1, out.2.1, own.filter (fun l => !l.isCell) ++ out.2.2.filter Loc.isCell, false⟩ d v w' (G.back G') := by
  have slotF : ∀ b s, G.owner b = some (.slot s) → b < w.heap.size ∧ ¬ Foot G.callee b := by
    intro b s hb
    have hlt : b < w.heap.size := by
      rcases Nat.lt_or_ge b w.heap.size with h | h
      · exact h
      · have := (g.new b h).2.1; rw [hb] at this; cases this
    refine ⟨hlt, ?_⟩
    rintro (⟨⟨id, _, hid⟩, _⟩ | hf)
    · have := (g.fin id b hid).2; rw [hb] at this; cases this
    · simp only [Gh.callee, hb] at hf; cases hf
  have hext : Ext G w (G.back G') w' := by
    refine ⟨h.ext.os, h.ext.tape, h.ext.output, h.ext.size, h.ext.prot, h.ext.f, h.ext.bs, ?_, h.ext.lo⟩
    intro b hb hf
    obtain ⟨h1, h2, h3⟩ := h.ext.foreign b hb (fun hf' => hf (callee_foot hf'))
    refine ⟨h1, h2, ?_, h3.2⟩
    rintro (h4 | h4)
    · exact h3.1 (.inl h4)
    · simp only [Gh.back] at h4
      split at h4
      · rename_i e; exact hf (.inr (by rw [e]; rfl))
      · exact h3.1 (.inr h4)
  refine ⟨hext, ⟨?_, ?_, hext.held g.held⟩, ⟨h.heap.dom, h.heap.blk, h.heap.inj, h.heap.lim⟩, h.rep, ?_, ?_, fun h => (by cases h), ?_⟩
  · intro id b hid
    obtain ⟨h1, h3⟩ := h.ok.fin id b hid
    refine ⟨h1, ?_⟩
    simp only [Gh.back]
    split
    · rename_i s e
      obtain ⟨h4, h5⟩ := slotF b s e
      have hid' := (h.ext.foreign b h4 h5).2.2.2 id hid
      have := (g.fin id b hid').2
      rw [e] at this; cases this
    · exact h3
  · intro b hb
    obtain ⟨h1, h2, h3⟩ := h.ok.new b hb
    refine ⟨h1, ?_, h3⟩
    simp only [Gh.back]
    rw [(g.new b (Nat.le_trans h.ext.size hb)).2.1]
    exact h2
  · intro s _ hs
    rcases List.mem_append.1 hs with hs | hs
    · have hs := (List.mem_filter.1 hs).1
      intro e xs hx
      obtain ⟨sz, cells, h1, h2, h3, h4⟩ := o.slot s hs e xs hx
      refine ⟨sz, cells, h1, h2, ?_, ?_⟩
      · rcases h3.2 with hn | ⟨q, cap, cur, hv, hb0, ⟨fr, hh, hfr⟩, rest⟩
        · exact ⟨h3.1, .inl hn⟩
        · have hq := h4 q (by rw [hv]; rfl)
          obtain ⟨h5, h6⟩ := slotF q s hq.1
          exact ⟨h3.1, .inr ⟨q, cap, cur, hv, hb0, ⟨fr, by rw [(h.ext.foreign q h5 h6).1]; exact hh, hfr⟩, rest⟩⟩
      · intro q hq
        have hq := h4 q hq
        obtain ⟨h5, h6⟩ := slotF q s hq.1
        refine ⟨by simp only [Gh.back, hq.1], ?_⟩
        show G'.lim q = _
        rw [(h.ext.foreign q h5 h6).2.1]; exact hq.2
    · have := (List.mem_filter.1 hs).2; cases this
  · intro id off b k cs hm hf hk hb
    rcases List.mem_append.1 hm with hm | hm
    · have := (List.mem_filter.1 hm).2; simp [Loc.isCell] at this
    · have hm := (List.mem_filter.1 hm).1
      intro e xs hx
      obtain ⟨sz, cells, h1, h2, h3, h4⟩ := h.own.cell id off b k cs hm hf hk hb e xs hx
      refine ⟨sz, cells, h1, h2, h3, fun q hq => ⟨?_, (h4 q hq).2⟩⟩
      have hq' := (h4 q hq).1
      simp only [Gh.back]
      split
      · rename_i s e'
        obtain ⟨h5, h6⟩ := slotF q s e'
        exact absurd (.inr (by rw [hq']; rfl)) (h.ext.foreign q h5 h6).2.2.1
      · exact hq'
  · intro id off hm
    rcases List.mem_append.1 hm with hm | hm
    · have := (List.mem_filter.1 hm).2; simp [Loc.isCell] at this
    · exact h.own.dom id off (List.mem_filter.1 hm).1

end
end Go.Proofs.YtomheegfobcijaaGreatDoor.Am

/- The abstract machine is right: lists that were written into and are written no more. -/
namespace Go.Proofs.YtomheegfobcijaaGreatDoor.Am
set_option linter.unusedVariables false
set_option linter.unusedSimpArgs false
open Go.RowKit

section
variable {P : Program} {w : World}

theorem fzOne_sound {G : Gh} {H : List (Option Blk)} {own : List Loc} {x : AV} {v : Value} (g : GOk G w) (hH : HeapRel P G H w) (ho : CellOwns P G H own w) (r : Rep P (G.mem w) x v) (hlo : ∀ e id off len, x = .sl e id off len → G.lo ≤ id) :
    ∃ G', Ext G w G' w ∧ GOk G' w ∧ HeapRel P G' (fzOne P H x).2 w ∧ CellOwns P G' (fzOne P H x).2 own w ∧ Rep P (G'.mem w) (fzOne P H x).1 v := by
  have same : ∀ {y : AV × List (Option Blk)}, y = (x, H) → ∃ G', Ext G w G' w ∧ GOk G' w ∧ HeapRel P G' y.2 w ∧ CellOwns P G' y.2 own w ∧ Rep P (G'.mem w) y.1 v := by
    rintro y rfl
    exact ⟨G, Ext.refl _ _, g, hH, ho, r⟩
  unfold fzOne
  split
  case h_2 => exact same rfl
  rename_i e id off len
  split
  case h_2 => exact same rfl
  rename_i k sz hk hsz
  cases hc : (!(Nat.beq k.e LOOP) && Nat.ble (off + len * sz) k.cs.length && Nat.blt 0 sz && Nat.blt 0 k.cs.length) with
  | false => simp only [cond_false]; exact same rfl
  | true =>
    simp only [cond_true]
    split
    case h_2 => exact same rfl
    rename_i xs hx
    simp only [Bool.and_eq_true] at hc
    obtain ⟨⟨⟨c0, c1⟩, c2⟩, c3⟩ := hc
    have hke : Nat.beq k.e LOOP = false := by cases hb : Nat.beq k.e LOOP with
      | false => rfl
      | true => rw [hb] at c0; cases c0
    have c1 : off + len * sz ≤ k.cs.length := Nat.ble_eq.mp c1
    have c2 : 0 < sz := Nat.blt_eq.mp c2
    have c3 : 0 < k.cs.length := Nat.blt_eq.mp c3
    have hkne : k.cs ≠ [] := by intro e; rw [e] at c3; exact absurd c3 (Nat.not_lt_zero _)
    cases r with
    | sl _ _ _ _ b cap sz' hf hsz' hz' hb hl =>
    obtain rfl : sz = sz' := by rw [hsz] at hsz'; exact Option.some.inj hsz'
    have hf : G.f id = some b := hf
    obtain ⟨ds, hd, hds, hbs, hrep, hone⟩ := (hH.blk id b k hf hk).1 hke
    have hlt : id < H.length := (List.getElem?_eq_some_iff.1 hk).1
    have hlim := hH.lim id b k hf hk hkne (fz_cells hke)
    have hown := (g.fin id b hf).2
    have hcl : ((k.cs.drop off).take (len * sz)).length = len * sz := by rw [List.length_take, List.length_drop]; omega
    obtain ⟨x1, x2, x3⟩ := chop_spec len _ xs hx hcl
    have hset : ∀ j q, (H.set id (some ⟨k.e, []⟩))[j]? = some (some q) → (j = id ∧ q = ⟨k.e, []⟩) ∨ (j ≠ id ∧ H[j]? = some (some q)) := by
      intro j q hj
      by_cases hji : j = id
      · subst hji
        rw [List.getElem?_set_self hlt] at hj
        injection hj with hj; injection hj with hj
        exact .inl ⟨rfl, hj.symm⟩
      · rw [List.getElem?_set_ne (fun e => hji e.symm)] at hj
        exact .inr ⟨hji, hj⟩
    have hlimo : ∀ q, q ≠ b → upd G.lim b (off + len * sz) q = G.lim q := fun q hq => upd_ne _ _ hq
    have hext : Ext G w { G with lim := upd G.lim b (off + len * sz) } w := by
      refine ⟨rfl, rfl, rfl, Nat.le_refl _, ?_, fun _ _ h => h, fun _ => Nat.le_refl _, ?_, rfl⟩
      · intro q o u hq
        by_cases hqb : q = b
        · subst hqb
          unfold pmOf at hq
          rw [hlim] at hq
          simp at hq
        · unfold pmOf at hq ⊢
          show (if o < upd G.lim b (off + len * sz) q then _ else _) = _
          rw [hlimo q hqb]; exact hq
      · intro q hq hn
        have hqb : q ≠ b := by rintro rfl; exact hn (.inl ⟨⟨id, hlo _ _ _ _ rfl, hf⟩, hlim⟩)
        refine ⟨rfl, hlimo q hqb, ?_, fun _ h => h⟩
        rintro (⟨h1, h2⟩ | h1)
        · exact hn (.inl ⟨h1, (hlimo q hqb).symm.trans h2⟩)
        · exact hn (.inr h1)
    have hbw := (g.fin id b hf).1
    have hgok : GOk { G with lim := upd G.lim b (off + len * sz) } w := by
      refine ⟨g.fin, fun q hq => ?_, hext.held g.held⟩
      obtain ⟨a1, a2, a3⟩ := g.new q hq
      exact ⟨(hlimo q (by omega)).trans a1, a2, a3⟩
    have hkill := kill_heap hH hk hke
    refine ⟨{ G with lim := upd G.lim b (off + len * sz) }, hext, hgok, ⟨hkill.dom, fun i q k' hi hk' => ?_, hkill.inj, fun i q k' hi hk' hn => ?_⟩, ⟨fun i o q k' cs hm hi hk' hb' => ?_, fun i o hm => (ho.dom i o hm).set _ _⟩, ?_⟩
    · exact (hkill.blk i q k' hi hk').to rfl rfl hext.mem
    · rcases hset i k' hk' with ⟨rfl, rfl⟩ | ⟨hne, hk'⟩
      · exact absurd rfl hn
      · have hqb : q ≠ b := by
          rintro rfl
          exact hne (hH.inj i id q k' k hi hf hk' hk hn hkne)
        exact fun hz => (hlimo q hqb).trans (hH.lim i q k' hi hk' hn hz)
    · rcases hset i k' hk' with ⟨rfl, rfl⟩ | ⟨hne, hk'⟩
      · intro e' ys hy; cases hy
      · intro e' ys hy
        obtain ⟨s', cells, h1, h2, h3, h4⟩ := ho.cell i o q k' cs hm hi hk' hb' e' ys hy
        refine ⟨s', cells, h1, h2, h3, fun gq hg => ?_⟩
        obtain ⟨a1, a2⟩ := h4 gq hg
        have hgb : gq ≠ b := by rintro rfl; rw [hown] at a1; cases a1
        exact ⟨a1, (hlimo gq hgb).trans a2⟩
    · have hflat : ∀ j, j < len * sz → (flat (xs ++ [])).getD j .undef = k.cs.getD (off + j) .undef := by
        intro j hj
        rw [List.append_nil, x3, getD_drop_take _ _ _ _ hj]
      have hfl : (flat (xs ++ [])).length = len * sz := by rw [List.append_nil, x3, hcl]
      have key := Rep.lst (P := P) (M := (Gh.mk (upd G.lim b (off + len * sz)) G.f G.bs G.owner G.lo).mem w) e xs [] (some ⟨b, off, none⟩) cap sz b off (fun j => ds.getD (off + j) undef) hsz c2 (by rw [List.append_nil]; exact x2) (by rw [x1]; exact hl) (fun _ => rfl)
        (by
          intro j hj
          rw [hfl] at hj
          show pmOf w _ b (off + j) = _
          unfold pmOf
          show (if off + j < upd G.lim b (off + len * sz) b then _ else _) = _
          rw [upd_same, if_pos (by omega)]
          have hjd : off + j < ds.size := by omega
          simp [World.cell?, hd, hjd])
        (by
          intro j hj
          rw [hfl] at hj
          rw [hflat j hj]
          exact hext.rep (hrep (off + j) (by omega)))
        (by
          intro j hj
          rw [hfl] at hj
          exact hone (off + j) (by omega))
      rw [x1] at key
      exact key

theorem fzAll_sound : ∀ (xs : List AV) {G : Gh} {H : List (Option Blk)} {own : List Loc} {vs : List Value} (g : GOk G w) (hH : HeapRel P G H w) (ho : CellOwns P G H own w) (hl : vs.length = xs.length) (r : ∀ i, i < xs.length → Rep P (G.mem w) (xs.getD i .undef) (vs.getD i undef)) (hlo : ∀ e id off len, AV.sl e id off len ∈ xs → G.lo ≤ id),
    ∃ G', Ext G w G' w ∧ GOk G' w ∧ HeapRel P G' (fzAll P xs H).2 w ∧ CellOwns P G' (fzAll P xs H).2 own w ∧ (fzAll P xs H).1.length = xs.length ∧ ∀ i, i < xs.length → Rep P (G'.mem w) ((fzAll P xs H).1.getD i .undef) (vs.getD i undef)
  | [], G, H, own, vs, g, hH, ho, hl, r, hlo => ⟨G, Ext.refl _ _, g, hH, ho, rfl, fun i hi => by simp at hi⟩
  | x :: xs, G, H, own, vs, g, hH, ho, hl, r, hlo => by
    cases vs with
    | nil => simp at hl
    | cons v vs =>
    have r0 : Rep P (G.mem w) x v := by simpa using r 0 (by simp)
    obtain ⟨G1, e1, g1, h1, o1, rx⟩ := fzOne_sound g hH ho r0 fun e id off len h => hlo e id off len (by rw [h]; exact List.mem_cons_self)
    obtain ⟨G2, e2, g2, h2, o2, l2, r2⟩ := fzAll_sound xs (vs := vs) g1 h1 o1 (by simpa using hl) (fun i hi => by
      have := r (i + 1) (by simpa using hi)
      simp only [List.getD_cons_succ] at this
      exact e1.rep this) (fun e id off len h => by rw [e1.lo]; exact hlo e id off len (List.mem_cons_of_mem _ h))
    refine ⟨G2, e1.trans e2, g2, h2, o2, by simp only [fzAll, List.length_cons, l2], ?_⟩
    intro i hi
    cases i with
    | zero => simp only [fzAll, List.getD_cons_zero]; exact e2.rep rx
    | succ i =>
      simp only [fzAll, List.getD_cons_succ]
      exact r2 i (by simpa using hi)

theorem fz_done {G G' : Gh} {w0 : World} {out : Out} {v : Value} {lo : Nat} (hgl : G.lo ≤ lo) (hsafe : fzSafe lo out.2.1 out.1 = true) (h : CallDone P G w0 out v w G') : ∃ G'', CallDone P G w0 ((fzV P out.1 out.2.1).1, (fzV P out.1 out.2.1).2, out.2.2) v w G'' := by
  obtain ⟨x, H, own⟩ := out
  obtain ⟨hext, hok, hheap, hrep, hown⟩ := h
  simp only at hheap hrep hown hsafe ⊢
  have hs1 : ∀ e id off len, fzSafe1 lo H (.sl e id off len) = true → G'.lo ≤ id := by
    intro e id off len h
    unfold fzSafe1 at h
    simp only at h
    split at h
    · rw [hext.lo]; exact Nat.le_trans hgl (Nat.ble_eq.mp h)
    · cases h
  have one : ∃ G'', CallDone P G w0 ((fzOne P H x).1, (fzOne P H x).2, own) v w G'' := by
    obtain ⟨G2, e2, g2, h2, o2, r2⟩ := fzOne_sound hok hheap hown hrep fun e id off len h => by
      subst h
      exact hs1 e id off len hsafe
    exact ⟨G2, hext.trans e2, g2, h2, r2, o2⟩
  unfold fzV
  split
  · rename_i xs
    cases hrep with
    | tup _ vs hl hh =>
      obtain ⟨G2, e2, g2, h2, o2, l2, r2⟩ := fzAll_sound xs (vs := vs.toList) hok hheap hown (by simpa using hl) (fun i hi => by
        have := hh i hi
        simpa [List.getD_eq_getElem?_getD, Array.getD_eq_getD_getElem?] using this) (fun e id off len h => hs1 e id off len (List.all_eq_true.1 (show xs.all (fzSafe1 lo H) = true from hsafe) _ h))
      refine ⟨G2, hext.trans e2, g2, h2, .tup _ vs (by rw [l2]; exact hl) (fun i hi => ?_), o2⟩
      rw [l2] at hi
      have := r2 i hi
      simpa [List.getD_eq_getElem?_getD, Array.getD_eq_getD_getElem?] using this
  · exact one

end
end Go.Proofs.YtomheegfobcijaaGreatDoor.Am

/- The abstract machine is right, fourteenth part: an operation, with the calls. -/
namespace Go.Proofs.YtomheegfobcijaaGreatDoor.Am
set_option linter.unusedVariables false
set_option linter.unusedSimpArgs false
open Go.RowKit

section
variable {P : Program} {w : World} {B : Fr}

/-! ### ends in order -/
theorem blt_irrefl (a : Nat) : Nat.blt a a = false := by
  cases h : Nat.blt a a with
  | false => rfl
  | true => have := Nat.blt_eq.mp h; omega
theorem lt_irrefl (x : Loc) : Loc.lt x x = false := by cases x <;> simp [Loc.lt, blt_irrefl]
theorem lt_trans' {x y z : Loc} (h : Loc.lt x y = true) (k : Loc.lt y z = true) : Loc.lt x z = true := by
  cases x <;> cases y <;> cases z <;> simp [Loc.lt] at h k ⊢ <;> omega
theorem lt_tri (x y : Loc) : Loc.lt x y = true ∨ x = y ∨ Loc.lt y x = true := by
  cases x <;> cases y <;> simp [Loc.lt] <;> omega
theorem mem_insL {x m : Loc} {l : List Loc} : m ∈ insL x l ↔ m = x ∨ m ∈ l := by
  induction l with
  | nil => simp [insL]
  | cons y r ih =>
    simp only [insL]
    cases h1 : Loc.lt x y with
    | true => simp
    | false =>
      cases h2 : Loc.beq x y with
      | true =>
        rw [beq_loc] at h2; subst h2
        simp
      | false =>
        simp only [cond_false, List.mem_cons, ih]
        constructor
        · rintro (h | h | h) <;> simp [h]
        · rintro (h | h | h) <;> simp [h]
theorem mem_canon {m : Loc} {l : List Loc} : m ∈ canon l ↔ m ∈ l := by
  induction l with
  | nil => simp [canon]
  | cons y r ih => show m ∈ insL y (canon r) ↔ _; rw [mem_insL, ih, List.mem_cons]
theorem sorted_insL {x : Loc} {l : List Loc} (h : l.Pairwise fun a b => Loc.lt a b = true) : (insL x l).Pairwise fun a b => Loc.lt a b = true := by
  induction l with
  | nil => simp [insL]
  | cons y r ih =>
    rw [List.pairwise_cons] at h
    simp only [insL]
    cases h1 : Loc.lt x y with
    | true =>
      simp only [cond_true]
      rw [List.pairwise_cons, List.pairwise_cons]
      exact ⟨fun a ha => by
        rcases List.mem_cons.1 ha with rfl | ha
        · exact h1
        · exact lt_trans' h1 (h.1 a ha), h⟩
    | false =>
      cases h2 : Loc.beq x y with
      | true => simp only [cond_false, cond_true]; rw [List.pairwise_cons]; exact h
      | false =>
        simp only [cond_false]
        rw [List.pairwise_cons]
        refine ⟨fun a ha => ?_, ih h.2⟩
        rcases mem_insL.1 ha with rfl | ha
        · rcases lt_tri a y with e | e | e
          · rw [e] at h1; cases h1
          · rw [beq_loc.2 e] at h2; cases h2
          · exact e
        · exact h.1 a ha
theorem sorted_canon (l : List Loc) : (canon l).Pairwise fun a b => Loc.lt a b = true := by
  induction l with
  | nil => exact List.Pairwise.nil
  | cons y r ih => exact sorted_insL ih
theorem sorted_ext : ∀ {l m : List Loc}, l.Pairwise (fun a b => Loc.lt a b = true) → m.Pairwise (fun a b => Loc.lt a b = true) → (∀ x, x ∈ l ↔ x ∈ m) → l = m
  | [], [], _, _, _ => rfl
  | [], y :: r, _, _, h => by have := (h y).2 (by simp); cases this
  | x :: l, [], _, _, h => by have := (h x).1 (by simp); cases this
  | x :: l, y :: m, hl, hm, h => by
    rw [List.pairwise_cons] at hl hm
    have hxy : x = y := by
      rcases List.mem_cons.1 ((h x).1 (by simp)) with e | e
      · exact e
      · rcases List.mem_cons.1 ((h y).2 (by simp)) with e' | e'
        · exact e'.symm
        · have := lt_trans' (hl.1 y e') (hm.1 x e); rw [lt_irrefl] at this; cases this
    subst hxy
    congr 1
    refine sorted_ext hl.2 hm.2 fun z => ?_
    constructor
    · intro hz
      rcases List.mem_cons.1 ((h z).1 (by simp [hz])) with e | e
      · subst e; have := hl.1 z hz; rw [lt_irrefl] at this; cases this
      · exact e
    · intro hz
      rcases List.mem_cons.1 ((h z).2 (by simp [hz])) with e | e
      · subst e; have := hm.1 z hz; rw [lt_irrefl] at this; cases this
      · exact e
theorem canon_ext {l m : List Loc} (h : ∀ x, x ∈ l ↔ x ∈ m) : canon l = canon m :=
  sorted_ext (sorted_canon l) (sorted_canon m) fun x => by rw [mem_canon, mem_canon]; exact h x

/-- No function of the program is the one that the model asks by name. -/
def NoNum (P : Program) : Prop := ∀ (f : Nat) (fn : Func), P.funcs[f]? = some fn → (fn.name == "runtime.NumGoroutine") = false

theorem run_callFunc {f : FuncId} (hN : NoNum P) (hb : hasBody P f = true) (args : Array Value) : (callFunc f args).run P w = .ok (.enter f args) w := by
  unfold hasBody at hb
  cases hf : P.funcs[f]? with
  | none => rw [hf] at hb; cases hb
  | some fn =>
    rw [hf] at hb
    have h1 := hN f fn hf
    have h2 : fn.body.isNone = false := by cases hbd : fn.body <;> simp [hbd] at hb ⊢
    simp only [callFunc, Sem.run_bind, run_program, Result.andThen_ok, hf, h1, h2, Bool.false_eq_true, if_false, Sem.run_pure]

theorem args_append {M : Mem} {xs ys : List AV} {us vs : Array Value} (h : ArgsRep P M xs us) (k : ArgsRep P M ys vs) : ArgsRep P M (xs ++ ys) (us ++ vs) := by
  refine ⟨by rw [Array.size_append, List.length_append, h.1, k.1], ?_⟩
  intro i hi
  rw [List.length_append] at hi
  simp only [List.getD_eq_getElem?_getD, Array.getD_eq_getD_getElem?]
  by_cases hlt : i < xs.length
  · have := h.2 i hlt
    simp only [List.getD_eq_getElem?_getD, Array.getD_eq_getD_getElem?] at this
    rw [List.getElem?_append_left hlt, Array.getElem?_append_left (by rw [h.1]; exact hlt)]
    exact this
  · have := k.2 (i - xs.length) (by omega)
    simp only [List.getD_eq_getElem?_getD, Array.getD_eq_getD_getElem?] at this
    rw [List.getElem?_append_right (by omega), Array.getElem?_append_right (by rw [h.1]; omega), h.1]
    exact this
theorem evalL_args {M : Mem} {env : List (Nat × AV)} {a : Act} (he : EnvRel P M env a) {xs : Array Operand} {vs : List AV} (h : evalL env xs.toList = some vs) : ArgsRep P M vs (xs.map a.eval) := by
  obtain ⟨h1, h2⟩ := evalL_rel xs.toList vs h (he.ops _)
  refine ⟨by simpa using h1, ?_⟩
  intro i hi
  have := h2 i hi
  simpa [List.getD_eq_getElem?_getD, Array.getD_eq_getD_getElem?] using this

/-- What the operation is, where it is a call: into which function, with what. -/
theorem call_enters {G : Gh} {env : List (Nat × AV)} {H : List (Option Blk)} {own : List Loc} {a : Act} {call : CallA} {ops : List Oper} {o : Oper} {r : Res} (hN : NoNum P)
    (g : GOk G w) (hH : HeapRel P G H w) (he : EnvRel P (G.mem w) env a) (hc : isCallOp o.op = true) (h : core call P ops o env H own = some r) :
    ∃ f args vals out, (execOp a.eval o).run P w = .ok (.enter f vals) w ∧ ArgsRep P (G.mem w) args vals ∧ call f args H (canon (own.filter Loc.isCell)) = some out ∧ r = ⟨out.1, out.2.1, own.filter (fun l => !l.isCell) ++ out.2.2.filter Loc.isCell, false⟩ := by
  have fin : ∀ f args vals, callA call P H own f args = some r → ArgsRep P (G.mem w) args vals → (execOp a.eval o).run P w = (callFunc f vals).run P w → ∃ f args vals out, (execOp a.eval o).run P w = .ok (.enter f vals) w ∧ ArgsRep P (G.mem w) args vals ∧ call f args H (canon (own.filter Loc.isCell)) = some out ∧ r = ⟨out.1, out.2.1, own.filter (fun l => !l.isCell) ++ out.2.2.filter Loc.isCell, false⟩ := by
    intro f args vals hca har hrun
    unfold callA at hca
    cases hb : hasBody P f with
    | false => rw [hb] at hca; cases hca
    | true =>
      rw [hb] at hca
      simp only [cond_true] at hca
      split at hca
      · rename_i x H' own' hcl
        injection hca with hca
        exact ⟨f, args, vals, _, hrun.trans (run_callFunc hN hb vals), har, hcl, hca.symm⟩
      · cases hca
  obtain ⟨dst, op, ty, pos, after, guard⟩ := o
  simp only at hc fin
  unfold isCallOp at hc
  split at hc
  case h_3 => cases hc
  · rename_i f args at_
    unfold core at h
    simp only at h
    split at h
    · rename_i q cap vs hf hvs
      have rf := he.opd hf
      generalize hfv : a.eval f = fv at rf
      cases rf with
      | fn _ _ caps hl hh =>
        refine fin q _ (args.map a.eval ++ caps) h (args_append (evalL_args he hvs) ⟨hl, hh⟩) ?_
        simp only [execOp, resolve, hfv, Deferred.ofValue, Sem.run_bind, Sem.run_pure, Result.andThen_ok, invoke, Array.empty_append]
    · rename_i q bs cap vs hf hvs
      have rf := he.opd hf
      generalize hfv : a.eval f = fv at rf
      cases rf with
      | mfn _ _ _ us caps kl k hl hh =>
        refine fin q _ (us ++ args.map a.eval ++ caps) h (args_append (args_append ⟨kl, k⟩ (evalL_args he hvs)) ⟨hl, hh⟩) ?_
        simp only [execOp, resolve, hfv, Deferred.ofValue, Sem.run_bind, Sem.run_pure, Result.andThen_ok, invoke]
    · cases h
  · rename_i rv name args at_
    unfold core at h
    simp only at h
    split at h
    · rename_i t v vs hr hvs
      have rr := he.opd hr
      generalize hrv : a.eval rv = iv at rr
      cases rr with
      | iface _ _ u ru =>
        split at h
        · rename_i f x hm
          have hargs := evalL_args he hvs
          -- the method
          have hmeth : ∃ xv, (method (P.types.size + Made.depth) t u name).run P w = .ok (f, xv) w ∧ Rep P (G.mem w) x xv := by
            have hmd : 0 < Made.depth := by decide
            obtain ⟨q, hq⟩ : ∃ q, P.types.size + Made.depth = q + 1 := ⟨P.types.size + Made.depth - 1, by omega⟩
            rw [hq]
            unfold methodA at hm
            split at hm
            · rename_i i hi
              split at hm
              · rename_i m hfind
                split at hm
                · rename_i hp0
                  have hpath : m.path.toList = [] := by
                    have : m.path = #[] := Array.eq_empty_of_size_eq_zero hp0
                    rw [this]
                  have hie : m.path.isEmpty = true := by simp [Array.isEmpty, hp0]
                  simp only [method, Sem.run_bind, run_typeInfo' hi, Result.andThen_ok, hfind, hpath, follow, Sem.run_pure]
                  split at hm
                  · rename_i f' pe hmf hu
                    injection hm with hm; injection hm with h1 h2; subst h1; subst h2
                    exact ⟨u, by simp only [hmf, Sem.run_bind, receiverAt, run_underlying' hu, Result.andThen_ok, Place.get, Sem.run_pure], ru⟩
                  · rename_i f' e hmf hu
                    split at hm
                    · rename_i id off
                      cases hl : loadA P H e (.ptr id off) with
                      | none => rw [hl] at hm; cases hm
                      | some y =>
                        rw [hl] at hm; simp only [Option.map_some, Option.some.injEq, Prod.mk.injEq] at hm
                        obtain ⟨h1, h2⟩ := hm; subst h1; subst h2
                        obtain ⟨z, hz, rz, _⟩ := load_sound hl ru (fun id off b k _ hf hk => hH.blk id b k hf hk)
                        cases ru with
                        | ptr _ _ b hfb =>
                          refine ⟨z, ?_, rz⟩
                          have hz' : (loadVar e ⟨b, off, none⟩).run P w = .ok z w := by
                            simpa only [Instr.loadAt, Instr.sureAddr, Sem.run_bind, Sem.run_pure, Result.andThen_ok] using hz
                          have hw : (Builtin.ssaWrapNilChk_ #[t] t #[.pointer (some ⟨b, off, none⟩), strVal "", strVal ((name.splitOn ".").getLastD name)]).run P w = .ok (.pointer (some ⟨b, off, none⟩)) w := by
                            rfl
                          simp only [hmf, Sem.run_bind, receiverAt, run_underlying' hu, Result.andThen_ok, Place.get, Sem.run_pure, hie, if_true, hw, asAddr, hz']
                    · cases hm
                  · rename_i f' e hmf hu
                    injection hm with hm; injection hm with h1 h2; subst h1; subst h2
                    exact ⟨u, by simp only [hmf, Sem.run_bind, receiverAt, run_underlying' hu, Result.andThen_ok, Place.get, Sem.run_pure], ru⟩
                  · rename_i f' e hmf hu
                    injection hm with hm; injection hm with h1 h2; subst h1; subst h2
                    exact ⟨u, by simp only [hmf, Sem.run_bind, receiverAt, run_underlying' hu, Result.andThen_ok, Place.get, Sem.run_pure], ru⟩
                  · rename_i f' e hmf hu
                    injection hm with hm; injection hm with h1 h2; subst h1; subst h2
                    exact ⟨u, by simp only [hmf, Sem.run_bind, receiverAt, run_underlying' hu, Result.andThen_ok, Place.get, Sem.run_pure], ru⟩
                  · cases hm
                · cases hm
              · cases hm
            · cases hm
          obtain ⟨xv, hmr, rx⟩ := hmeth
          refine fin f _ (#[xv] ++ args.map a.eval) h (args_append (xs := [x]) (us := #[xv]) ⟨rfl, fun i hi => by
            have : i = 0 := by simpa using hi
            subst this; exact rx⟩ hargs) ?_
          have hall : (#[a.eval rv] ++ args.map a.eval) = (a.eval rv :: (args.map a.eval).toList).toArray := by apply Array.ext'; simp
          have hex : (#[a.eval rv] ++ args.map a.eval).extract 1 (#[a.eval rv] ++ args.map a.eval).size = args.map a.eval := by
            rw [hall]
            apply Array.ext'
            simp [List.take_of_length_le]
          have hg0 : (#[a.eval rv] ++ args.map a.eval)[0]? = some (a.eval rv) := by rw [hall]; rfl
          have hinv : (invoke (.fn (.method name) #[]) (#[a.eval rv] ++ args.map a.eval)).run P w = (callMethod (a.eval rv) name (args.map a.eval)).run P w := by
            simp only [invoke, hg0, hex]
          have hexec : (execOp a.eval { dst := dst, op := .call { callee := .invoke rv name, args := args, argTypes := at_ }, type := ty, pos := pos, after := after, guard := guard }).run P w = (invoke (.fn (.method name) #[]) (#[a.eval rv] ++ args.map a.eval)).run P w := by
            simp only [execOp, resolve, Sem.run_bind, Sem.run_pure, Result.andThen_ok]
          rw [hexec, hinv, hrv]
          simp only [callMethod, Sem.run_bind, run_program, Result.andThen_ok, hmr]
        · cases h
    · cases h

/-- AN OPERATION: whatever it is, Go's step is the machine's. -/
theorem op_wp {nt : Nat} {G : Gh} {st st' : St} {a : Act} {call : CallA} {pre : Option (Nat × Option WS)} {ops : List Oper} {o : Oper} {K : Act → World → Prop} {Q : Exit → Act → World → Prop} (hN : NoNum P) (hcall : CallSound P call)
    (hR : Rel P B G nt st a w) (hgl : G.lo ≤ call.lo) (h : stepOp call P nt pre ops o st = some st') (hK : ∀ a' w' G', Rel P B G' nt st' a' w' → Ext G w G' w' → K a' w') : o.wp P a w K Q := by
  unfold stepOp at h
  split at h
  case h_2 => cases h
  rename_i r hcoreP
  obtain ⟨d0, hd0⟩ := fresh_slot r.own
  obtain ⟨d, hd1, hd2⟩ : ∃ d, (∀ q, o.dst = some q → q = d) ∧ (o.dst = none → Loc.slot d ∉ r.own) := by
    cases hdst : o.dst with
    | none => exact ⟨d0, (fun q e => by cases e), fun _ => hd0⟩
    | some q => exact ⟨q, (fun q' e => by injection e with e; exact e.symm), fun e => by cases e⟩
  have hcases : (core call P ops o st.env st.H st.own = some r ∨ ∃ e, newSl P e o.op st.env st.H st.own = some r ∧ okSl call.lo o.op st.env = true) ∨ ((∃ id, newAt P o st.env st.H st.own id = some r) ∨ coreM call.lo P o st.env st.H st.own = some r) := by
    unfold coreP at hcoreP
    have hS : coreS call P ops o st.env st.H st.own = some r → (core call P ops o st.env st.H st.own = some r ∨ ∃ e, newSl P e o.op st.env st.H st.own = some r ∧ okSl call.lo o.op st.env = true) ∨ ((∃ id, newAt P o st.env st.H st.own id = some r) ∨ coreM call.lo P o st.env st.H st.own = some r) := by
      intro h
      unfold coreS at h
      split at h
      · rename_i e _
        cases hk : okSl call.lo o.op st.env with
        | true => rw [hk] at h; exact .inl (.inr ⟨e, h, rfl⟩)
        | false => rw [hk] at h; cases h
      · cases hm : isMapO o with
        | true => rw [hm] at h; exact .inr (.inr h)
        | false => rw [hm] at h; exact .inl (.inl h)
    split at hcoreP
    · exact hS hcoreP
    · cases ha : allocOp o with
      | false =>
        rw [ha] at hcoreP
        simp only [cond_false] at hcoreP
        rename_i b lt
        cases hl : (lateNo b lt ops o st.env) with
        | true => rw [hl] at hcoreP; cases hcoreP
        | false => rw [hl] at hcoreP; exact hS hcoreP
      | true =>
        rw [ha] at hcoreP
        simp only [cond_true] at hcoreP
        split at hcoreP
        · split at hcoreP
          · exact .inr (.inl ⟨_, hcoreP⟩)
          · cases hcoreP
        · cases hcoreP
  unfold Oper.wp
  rcases hcases with (hcore | ⟨e, hsl, hok⟩) | (⟨id, hnew⟩ | hmap)
  case inl.inr =>
    obtain ⟨v, w', G', hrun, hdone⟩ := newSl_sound hR.ok hR.heap hR.own hR.env hgl hok hsl d
    obtain ⟨h1, h2⟩ := put_sound hR h d hd1 hd2 hdone
    rw [hrun, Oper.upon_value]; exact hK _ _ _ h1 h2
  case inr.inr =>
    obtain ⟨v, w', G', hrun, hdone⟩ := coreM_sound hR.ok hR.heap hR.own hR.env hgl hmap d
    obtain ⟨h1, h2⟩ := put_sound hR h d hd1 hd2 hdone
    rcases hrun with hrun | ⟨hrun, rfl⟩
    · rw [hrun, Oper.upon_value]; exact hK _ _ _ h1 h2
    · rw [hrun, Oper.upon_skip]; exact hK _ _ _ h1 h2
  case inr.inl =>
    obtain ⟨v, w', G', hrun, hdone⟩ := newAt_sound hR.ok hR.heap hR.own hR.env hnew d
    obtain ⟨h1, h2⟩ := put_sound hR h d hd1 hd2 hdone
    rw [hrun, Oper.upon_value]; exact hK _ _ _ h1 h2
  cases hc : isCallOp o.op with
  | false =>
    obtain ⟨v, w', G', hrun, hdone⟩ := core_sound hR.ok hR.heap hR.own hR.env hgl hc hcore d
    obtain ⟨h1, h2⟩ := put_sound hR h d hd1 hd2 hdone
    rcases hrun with hrun | ⟨hrun, rfl⟩
    · rw [hrun, Oper.upon_value]; exact hK _ _ _ h1 h2
    · rw [hrun, Oper.upon_skip]; exact hK _ _ _ h1 h2
  | true =>
    obtain ⟨f, args, vals, out, hrun, har, hcl, hr⟩ := call_enters hN hR.ok hR.heap hR.env hc hcore
    rw [hrun, Oper.upon_enter]
    have hcs := hcall f args st.H _ out hcl G.callee w vals hgl (callee_gok hR.ok) ⟨hR.heap.dom, hR.heap.blk, hR.heap.inj, hR.heap.lim⟩ ⟨fun id off b k cs hm hf hk hb => callee_own (hR.own.cell id off b k cs (List.mem_filter.1 (mem_canon.1 hm)).1 hf hk hb), fun id off hm => hR.own.dom id off (List.mem_filter.1 (mem_canon.1 hm)).1⟩ har
    refine hcs.mono ?_
    rintro e w' ⟨v, G', rfl, hdone⟩
    have hd := back_done hR.ok hR.heap hR.own hdone d
    rw [← hr] at hd
    obtain ⟨h1, h2⟩ := put_sound hR h d hd1 hd2 hd
    exact hK _ _ _ h1 h2

end
end Go.Proofs.YtomheegfobcijaaGreatDoor.Am

/- The abstract machine is right, sixteenth part: what an operation reads of slots, of the heap and of the ends. -/
namespace Go.Proofs.YtomheegfobcijaaGreatDoor.Am
set_option linter.unusedVariables false
set_option linter.unusedSimpArgs false
open Go.RowKit

section
variable {P : Program} {call : CallA} {ops : List Oper}

theorem evalO_env {env env' : List (Nat × AV)} {x : Operand} (h : ∀ s, x = .tmp s → look env s = look env' s) : evalO env x = evalO env' x := by
  cases x <;> simp only [evalO]
  rw [h _ rfl]
theorem evalL_env {env env' : List (Nat × AV)} : ∀ l : List Operand, (∀ x ∈ l, evalO env x = evalO env' x) → evalL env l = evalL env' l
  | [], _ => rfl
  | x :: r, h => by simp only [evalL]; rw [h x (by simp), evalL_env r fun y hy => h y (by simp [hy])]
theorem evalParts_env {env env' : List (Nat × AV)} : ∀ l : List (Nat × Operand), (∀ x ∈ l, evalO env x.2 = evalO env' x.2) → evalParts env l = evalParts env' l
  | [], _ => rfl
  | (i, x) :: r, h => by simp only [evalParts]; rw [h (i, x) (by simp), evalParts_env r fun y hy => h y (by simp [hy])]
theorem optA_env {env env' : List (Nat × AV)} (x : Option Operand) (h : ∀ y, x = some y → evalO env y = evalO env' y) : optA env x = optA env' x := by
  cases x with
  | none => rfl
  | some y => simp only [optA]; rw [h y rfl]

theorem core_env {env env' : List (Nat × AV)} {H : List (Option Blk)} {own : List Loc} {o : Oper} (h : ∀ s ∈ opSlots o, look env s = look env' s) : core call P ops o env H own = core call P ops o env' H own := by
  have hs : ∀ s, .tmp s ∈ o.op.operands.toList → look env s = look env' s := by
    intro s hm
    exact h s (by unfold opSlots; exact List.mem_filterMap.2 ⟨_, hm, rfl⟩)
  have hx : ∀ x ∈ o.op.operands.toList, evalO env x = evalO env' x := fun x hm => evalO_env fun s e => hs s (e ▸ hm)
  clear h
  obtain ⟨dst, op, ty, pos, after, guard⟩ := o
  simp only at hs hx
  cases op
  case move x =>
    cases x with
    | tmp s => simp only [core]; rw [hs s (by simp [Op.operands])]
    | _ => rfl
  case load t a => simp only [core]; rw [hx a (by simp [Op.operands])]
  case alloc e => rfl
  case box e x => simp only [core]; rw [hx x (by simp [Op.operands])]
  case store t a x => simp only [core]; rw [hx a (by simp [Op.operands]), hx x (by simp [Op.operands])]
  case assign x => simp only [core]; rw [hx x (by simp [Op.operands])]
  case buildSlice t len parts => simp only [core]; rw [evalParts_env parts.toList fun q hq => hx q.2 (by simp only [Op.operands, List.mem_map]; exact ⟨q, hq, rfl⟩)]
  case makeSlice t l c => simp only [core]; rw [hx l (by simp [Op.operands]), hx c (by simp [Op.operands])]
  case convert s d x => simp only [core]; rw [hx x (by simp [Op.operands])]
  case pick c a b => simp only [core, pureOp]; rw [hx c (by simp [Op.operands]), hx a (by simp [Op.operands]), hx b (by simp [Op.operands])]
  case build t parts => simp only [core, pureOp]; rw [evalParts_env parts.toList fun q hq => hx q.2 (by simp only [Op.operands, List.mem_map]; exact ⟨q, hq, rfl⟩)]
  case nilCheck x => simp only [core, pureOp]; rw [hx x (by simp [Op.operands])]
  case binOp op t x y ty => simp only [core, pureOp]; rw [hx x (by simp [Op.operands]), hx y (by simp [Op.operands])]
  case unOp op t x => simp only [core, pureOp]; rw [hx x (by simp [Op.operands])]
  case makeInterface t x => simp only [core, pureOp]; rw [hx x (by simp [Op.operands])]
  case makeFunc f first captured =>
    have : evalL env captured.toList = evalL env' captured.toList := evalL_env _ fun q hq => hx q (by simp [Op.operands]; exact .inr (by simpa using hq))
    have h2 : evalL env first.toList = evalL env' first.toList := evalL_env _ fun q hq => hx q (by simp [Op.operands]; exact .inl (by simpa using hq))
    cases f <;> simp only [core, pureOp]
    rw [this, h2]
  case slice t x l hh m => simp only [core, pureOp]; rw [hx x (by simp [Op.operands]), optA_env l fun y e => hx y (by simp [Op.operands, e]), optA_env hh fun y e => hx y (by simp [Op.operands, e]), optA_env m fun y e => hx y (by simp [Op.operands, e])]
  case fieldAddr s x f => simp only [core, pureOp]; rw [hx x (by simp [Op.operands])]
  case field t x f => simp only [core, pureOp]; rw [hx x (by simp [Op.operands])]
  case indexAddr t x i => simp only [core, pureOp]; rw [hx x (by simp [Op.operands]), hx i (by simp [Op.operands])]
  case index t x i => simp only [core, pureOp]; rw [hx x (by simp [Op.operands]), hx i (by simp [Op.operands])]
  case extract t i => simp only [core, pureOp]; rw [hx t (by simp [Op.operands])]
  case call c =>
    obtain ⟨callee, args, at_⟩ := c
    simp only [Op.operands, Call.operands] at hs hx
    have hargs : ∀ x ∈ args.toList, evalO env x = evalO env' x := fun x hm => hx x (by simp; exact .inr (by simpa using hm))
    cases callee with
    | value f => simp only [core]; rw [hx f (by simp), evalL_env _ hargs]
    | invoke r name => simp only [core]; rw [hx r (by simp), evalL_env _ hargs]
    | builtin b =>
      cases b
      case append =>
        simp only [core]
        split
        · rename_i s x ts tx e1 e2
          rw [e1] at hargs
          unfold appendA
          rw [hargs s (by simp), hargs x (by simp)]
        · rfl
      case len =>
        simp only [core, pureOp]
        split
        · rename_i x t e1 e2
          rw [e1] at hargs
          rw [hargs x (by simp)]
        · rfl
      case max => simp only [core, pureOp]; rw [evalL_env _ hargs]
      case min => simp only [core, pureOp]; rw [evalL_env _ hargs]
      all_goals rfl
  case typeAssert x a b c => simp only [core, pureOp]; rw [hx x (by simp [Op.operands])]
  all_goals rfl

end
end Go.Proofs.YtomheegfobcijaaGreatDoor.Am

/- The abstract machine is right, seventeenth part: operations that ask neither for the heap nor for the ends. -/
namespace Go.Proofs.YtomheegfobcijaaGreatDoor.Am
set_option linter.unusedVariables false
set_option linter.unusedSimpArgs false
open Go.RowKit

section
variable {P : Program} {call : CallA} {ops : List Oper}

theorem plain_some {H : List (Option Blk)} {own : List Loc} {x : Option AV} {r : Res} (h : plainRes H own x = some r) : ∃ v, x = some v ∧ r = ⟨v, H, own, false⟩ := by
  cases x with
  | none => cases h
  | some v => injection h with h; exact ⟨v, rfl, h.symm⟩

/-- It leaves the ends, and does not ask for them. -/
theorem core_own {env : List (Nat × AV)} {H : List (Option Blk)} {own : List Loc} {o : Oper} {r : Res} (he : ends ops o = false) (h : core call P ops o env H own = some r) :
    r.own = own ∧ ∀ own', core call P ops o env H own' = some ⟨r.val, r.H, own', r.gives⟩ := by
  have fin : ∀ x : Option AV, core call P ops o env H own = plainRes H own x → (∀ own', core call P ops o env H own' = plainRes H own' x) → r.own = own ∧ ∀ own', core call P ops o env H own' = some ⟨r.val, r.H, own', r.gives⟩ := by
    intro x h1 h2
    obtain ⟨v, rfl, rfl⟩ := plain_some (h1.symm.trans h)
    exact ⟨rfl, fun own' => h2 own'⟩
  obtain ⟨dst, op, ty, pos, after, guard⟩ := o
  cases op
  case move x =>
    cases x with
    | tmp s =>
      simp only [ends] at he
      simp only [core, he, Bool.and_false, cond_false] at h ⊢
      injection h with h; subst h
      exact ⟨rfl, fun _ => rfl⟩
    | const v => exact fin _ rfl fun _ => rfl
    | func v => exact fin _ rfl fun _ => rfl
    | global v => exact fin _ rfl fun _ => rfl
  case load t a =>
    simp only [ends] at he
    simp only [core, he, Bool.and_false, Bool.false_and, cond_false] at h ⊢
    cases ha : evalO env a with
    | none => rw [ha] at h; cases h
    | some p =>
      rw [ha] at h
      simp only at h ⊢
      cases hl : loadA P H t p with
      | none => rw [hl] at h; cases h
      | some x =>
        rw [hl] at h
        simp only at h ⊢
        cases p <;> (simp only at h ⊢; injection h with h; subst h; exact ⟨rfl, fun _ => rfl⟩)
  case alloc e =>
    simp only [core] at h ⊢
    cases hz : zeroT P e with
    | none => rw [hz] at h; cases h
    | some z =>
      rw [hz] at h
      simp only at h ⊢
      split at h
      · rename_i hc; injection h with h; subst h; exact ⟨rfl, fun _ => by rw [if_pos hc]⟩
      · cases h
  case box e x =>
    simp only [core] at h ⊢
    cases hz : evalO env x with
    | none => rw [hz] at h; cases h
    | some z =>
      rw [hz] at h
      simp only at h ⊢
      split at h
      · injection h with h; subst h; exact ⟨rfl, fun _ => by split <;> first | rfl | contradiction⟩
      · cases h
  case store t a x => cases he
  case assign x => cases he
  case buildSlice t len parts =>
    simp only [core] at h ⊢
    split at h
    · rename_i e ps h1 h2
      split at h
      · rename_i sz z h3 h4
        split at h
        · rename_i hc
          split at h
          · rename_i cs h5
            split at h
            · rename_i xs h6
              injection h with h; subst h
              exact ⟨rfl, fun _ => by simp only [h1, h2, h3, h4, if_pos hc, h5, h6]⟩
            · cases h
          · cases h
        · cases h
      · cases h
    · cases h
  case makeSlice t l c =>
    simp only [core] at h ⊢
    split at h
    · rename_i e n c h1 h2 h3
      split at h
      · rename_i n' c' i z h4 h5 h6 h7
        split at h
        · rename_i hc
          split at h
          · rename_i x h8
            injection h with h; subst h
            exact ⟨rfl, fun _ => by simp only [h1, h2, h3, h4, h5, h6, h7, if_pos hc, h8]⟩
          · cases h
        · cases h
      · cases h
    · cases h
  case convert s d x =>
    simp only [core] at h ⊢
    split at h
    · rename_i e q h1 h2 h3
      split at h
      · rename_i h4 h5
        injection h with h; subst h
        exact ⟨rfl, fun _ => by simp only [h4, h5]⟩
      · cases h
    · rename_i e e' xs sp h1 h2 h3
      split at h
      · rename_i h4
        split at h
        · rename_i h5
          obtain ⟨v, hv, rfl⟩ := plain_some h
          exact ⟨rfl, fun _ => by simp only [h4, h5, if_true, hv]; rfl⟩
        · cases h
      · cases h
    · rename_i e h1 h2 h3
      split at h
      · rename_i h4
        injection h with h; subst h
        exact ⟨rfl, fun _ => by simp only [h4]⟩
      · cases h
    · rename_i a h1 n1 n2 n3
      obtain ⟨v, hv, rfl⟩ := plain_some h
      refine ⟨rfl, fun own' => ?_⟩
      rw [hv]; rfl
    · cases h
  case call c =>
    obtain ⟨callee, args, at_⟩ := c
    cases callee with
    | value f => cases he
    | invoke r name => cases he
    | builtin b =>
      cases b
      case append => cases he
      all_goals exact fin _ rfl fun _ => rfl
  all_goals exact fin _ rfl fun _ => rfl

/-- It leaves the heap, and asks at most for what a pointer points to. -/
theorem core_heapC {env : List (Nat × AV)} {H : List (Option Blk)} {own : List Loc} {o : Oper} {r : Res} (hh : heapC o = false) (ha : allocOp o = false) (h : core call P ops o env H own = some r) :
    r.H = H ∧ ∀ H', (∀ t a id off, o.op = .load t a → evalO env a = some (.ptr id off) → H'[id]? = H[id]?) → core call P ops o env H' own = some ⟨r.val, H', r.own, r.gives⟩ := by
  have fin : ∀ x : Option AV, core call P ops o env H own = plainRes H own x → (∀ H', core call P ops o env H' own = plainRes H' own x) → r.H = H ∧ ∀ H', (∀ t a id off, o.op = .load t a → evalO env a = some (.ptr id off) → H'[id]? = H[id]?) → core call P ops o env H' own = some ⟨r.val, H', r.own, r.gives⟩ := by
    intro x h1 h2
    obtain ⟨v, rfl, rfl⟩ := plain_some (h1.symm.trans h)
    exact ⟨rfl, fun H' _ => h2 H'⟩
  obtain ⟨dst, op, ty, pos, after, guard⟩ := o
  cases op
  case move x =>
    cases x with
    | tmp s =>
      simp only [core] at h ⊢
      injection h with h; subst h
      cases (owns own (.slot s) && appDst ops dst) <;> exact ⟨rfl, fun _ _ => rfl⟩
    | const v => exact fin _ rfl fun _ => rfl
    | func v => exact fin _ rfl fun _ => rfl
    | global v => exact fin _ rfl fun _ => rfl
  case load t a =>
    simp only [core] at h ⊢
    cases hp : evalO env a with
    | none => rw [hp] at h; cases h
    | some p =>
      rw [hp] at h
      simp only at h ⊢
      cases hl : loadA P H t p with
      | none => rw [hl] at h; cases h
      | some x =>
        rw [hl] at h
        have key : ∀ H' : List (Option Blk), (∀ (t_1 : TypeId) (a_1 : Operand) (id off : Nat), (Op.load t a = Op.load t_1 a_1) → evalO env a_1 = some (AV.ptr id off) → H'[id]? = H[id]?) → loadA P H' t p = some x := by
          intro H' hyp
          rw [← hl]
          unfold loadA
          split
          · cases p <;> simp only
            rename_i id off
            have := hyp t a id off rfl hp
            unfold readCells
            rw [this]
          · rfl
        simp only at h ⊢
        cases p with
        | ptr id off =>
          simp only at h ⊢
          refine ⟨?_, fun H' hyp => ?_⟩
          · injection h with h; subst h
            cases (owns own (.cell id off) && appDst ops dst && (sizeT P t == some 1) && (isAggT P t == some false)) <;> rfl
          · rw [key H' hyp]
            simp only
            injection h with h; subst h
            cases (owns own (.cell id off) && appDst ops dst && (sizeT P t == some 1) && (isAggT P t == some false)) <;> rfl
        | _ =>
          simp only at h ⊢
          injection h with h; subst h
          exact ⟨rfl, fun H' hyp => by rw [key H' hyp]⟩
  case alloc e => cases ha
  case box e x => cases ha
  case store t a x => cases hh
  case assign x =>
    simp only [core] at h ⊢
    cases hv : evalO env x with
    | none => rw [hv] at h; cases h
    | some v =>
      rw [hv] at h
      cases x with
      | tmp s =>
        simp only at h ⊢
        injection h with h; subst h
        cases owns own (.slot s) <;> exact ⟨rfl, fun _ _ => rfl⟩
      | _ =>
        simp only at h ⊢
        injection h with h; subst h
        exact ⟨rfl, fun _ _ => rfl⟩
  case buildSlice t len parts =>
    simp only [core] at h ⊢
    split at h
    · rename_i e ps h1 h2
      split at h
      · rename_i sz z h3 h4
        split at h
        · rename_i hc
          split at h
          · rename_i cs h5
            split at h
            · rename_i xs h6
              injection h with h; subst h
              exact ⟨rfl, fun H' _ => by simp only [h1, h2, h3, h4, if_pos hc, h5, h6]⟩
            · cases h
          · cases h
        · cases h
      · cases h
    · cases h
  case makeSlice t l c =>
    simp only [core] at h ⊢
    split at h
    · rename_i e n c h1 h2 h3
      split at h
      · rename_i n' c' i z h4 h5 h6 h7
        split at h
        · rename_i hc
          split at h
          · rename_i x h8
            injection h with h; subst h
            exact ⟨rfl, fun H' _ => by simp only [h1, h2, h3, h4, h5, h6, h7, if_pos hc, h8]⟩
          · cases h
        · cases h
      · cases h
    · cases h
  case convert s d x =>
    simp only [core] at h ⊢
    split at h
    · rename_i e q h1 h2 h3
      split at h
      · rename_i h4 h5
        injection h with h; subst h
        exact ⟨rfl, fun _ _ => by simp only [h4, h5]⟩
      · cases h
    · rename_i e e' xs sp h1 h2 h3
      split at h
      · rename_i h4
        split at h
        · rename_i h5
          obtain ⟨v, hv, rfl⟩ := plain_some h
          exact ⟨rfl, fun _ _ => by simp only [h4, h5, if_true, hv]; rfl⟩
        · cases h
      · cases h
    · rename_i e h1 h2 h3
      split at h
      · rename_i h4
        injection h with h; subst h
        exact ⟨rfl, fun _ _ => by simp only [h4]⟩
      · cases h
    · rename_i a h1 n1 n2 n3
      obtain ⟨v, hv, rfl⟩ := plain_some h
      refine ⟨rfl, fun H' _ => ?_⟩
      rw [hv]; rfl
    · cases h
  case call c =>
    obtain ⟨callee, args, at_⟩ := c
    cases callee with
    | value f => cases hh
    | invoke r name => cases hh
    | builtin b =>
      cases b
      case append =>
        simp only [core] at h ⊢
        split at h
        · rename_i s x ts tx h1 h2
          unfold appendA at h ⊢
          split at h
          · rename_i e a b h3 h4 h5
            split at h
            · rename_i ys i z h6 h7 h8
              split at h
              · split at h
                · rename_i hc
                  injection h with h; subst h
                  exact ⟨rfl, fun H' _ => by simp only [h3, h4, h5, h6, h7, h8, if_pos hc]⟩
                · cases h
              · split at h
                · split at h
                  · rename_i hc
                    injection h with h; subst h
                    exact ⟨rfl, fun H' _ => by simp only [h3, h4, h5, h6, h7, h8, if_pos hc]⟩
                  · cases h
                · cases h
              · cases h
            · cases h
          · cases h
        · cases h
      all_goals exact fin _ rfl fun _ => rfl
  all_goals exact fin _ rfl fun _ => rfl

/-- No slot becomes one's own but that which the value is put in. -/
theorem heapC_of {o : Oper} (h : heapOp o = false) : heapC o = false := by
  obtain ⟨dst, op, ty, pos, after, guard⟩ := o
  cases op
  case store => cases h
  case call c =>
    obtain ⟨callee, args, at_⟩ := c
    cases callee with
    | value f => cases h
    | invoke r n => cases h
    | builtin b => rfl
  all_goals rfl
theorem core_heap {env : List (Nat × AV)} {H : List (Option Blk)} {own : List Loc} {o : Oper} {r : Res} (hh : heapOp o = false) (ha : allocOp o = false) (h : core call P ops o env H own = some r) :
    r.H = H ∧ ∀ H', (∀ t a id off, o.op = .load t a → evalO env a = some (.ptr id off) → H'[id]? = H[id]?) → core call P ops o env H' own = some ⟨r.val, H', r.own, r.gives⟩ := core_heapC (heapC_of hh) ha h
/-! ### ends that are as good as each other -/
def Like (S : Nat → Prop) (own own' : List Loc) : Prop := ∀ l, (∀ s, l = .slot s → ¬ S s) → (l ∈ own ↔ l ∈ own')
theorem like_owns {S : Nat → Prop} {own own' : List Loc} {l : Loc} (h : Like S own own') (hl : ∀ s, l = .slot s → ¬ S s) : owns own l = owns own' l := by
  rw [Bool.eq_iff_iff, owns_iff, owns_iff]; exact h l hl
theorem Like.drop {S : Nat → Prop} {own own' : List Loc} (h : Like S own own') (l : Loc) : Like S (Am.drop own l) (Am.drop own' l) := by
  intro m hm; rw [mem_drop, mem_drop, h m hm]
theorem Like.give {S : Nat → Prop} {own own' : List Loc} (h : Like S own own') (l : Loc) : Like S (Am.give own l) (Am.give own' l) := by
  intro m hm; rw [mem_give, mem_give, h m hm]
theorem Like.cells {S : Nat → Prop} {own own' : List Loc} (h : Like S own own') (id off n : Nat) : Like S (dropCells own id off n) (dropCells own' id off n) := by
  intro m hm; unfold dropCells; rw [List.mem_filter, List.mem_filter, h m hm]

/-- What 'core' answers with the one, it answers with the other. -/
theorem core_frame {S : Nat → Prop} {env : List (Nat × AV)} {H : List (Option Blk)} {own own' : List Loc} {o : Oper} {r : Res} (hS : ∀ s, S s → s ∉ opSlots o) (hl : Like S own own') (h : core call P ops o env H own = some r) :
    ∃ oo, core call P ops o env H own' = some ⟨r.val, r.H, oo, r.gives⟩ ∧ Like S r.own oo ∧ ∀ s, S s → (Loc.slot s ∈ r.own ↔ Loc.slot s ∈ own) ∧ (Loc.slot s ∈ oo ↔ Loc.slot s ∈ own') := by
  cases he : ends ops o with
  | false =>
    obtain ⟨h1, h2⟩ := core_own he h
    exact ⟨own', h2 own', h1 ▸ hl, fun s _ => ⟨by rw [h1], Iff.rfl⟩⟩
  | true =>
    have hcell : ∀ id off, ∀ s, Loc.cell id off = .slot s → ¬ S s := fun id off s e => by cases e
    have hdropS : ∀ (l : Loc) (oo : List Loc), (∀ s, l = .slot s → ¬ S s) → ∀ s, S s → (Loc.slot s ∈ drop oo l ↔ Loc.slot s ∈ oo) := by
      intro l oo hl s hs
      rw [mem_drop]
      exact ⟨fun h => h.1, fun h => ⟨h, fun e => hl s e.symm hs⟩⟩
    have hcellS : ∀ (oo : List Loc) id off n, ∀ s, S s → (Loc.slot s ∈ dropCells oo id off n ↔ Loc.slot s ∈ oo) := by
      intro oo id off n s hs
      unfold dropCells
      rw [List.mem_filter]
      exact ⟨fun h => h.1, fun h => ⟨h, rfl⟩⟩
    have hcallA : ∀ f args, callA call P H own f args = some r → ∃ oo, callA call P H own' f args = some ⟨r.val, r.H, oo, r.gives⟩ ∧ Like S r.own oo ∧ ∀ s, S s → (Loc.slot s ∈ r.own ↔ Loc.slot s ∈ own) ∧ (Loc.slot s ∈ oo ↔ Loc.slot s ∈ own') := by
      intro f args hc
      unfold callA at hc ⊢
      cases hb : hasBody P f with
      | false => rw [hb] at hc; cases hc
      | true =>
        rw [hb] at hc
        simp only [cond_true] at hc ⊢
        have hcan : canon (own.filter Loc.isCell) = canon (own'.filter Loc.isCell) := by
          refine canon_ext fun x => ?_
          rw [List.mem_filter, List.mem_filter]
          cases x with
          | slot s => simp [Loc.isCell]
          | cell id off => rw [hl _ (hcell id off)]
        rw [← hcan]
        split at hc
        · rename_i x H' own1 hcl
          injection hc with hc; subst hc
          refine ⟨_, rfl, ?_, ?_⟩
          · intro m hm
            simp only [List.mem_append, List.mem_filter, hl m hm]
          · intro s hs
            have key : ∀ oo : List Loc, (Loc.slot s ∈ oo.filter (fun l => !l.isCell) ++ own1.filter Loc.isCell ↔ Loc.slot s ∈ oo) := by
              intro oo
              rw [List.mem_append, List.mem_filter, List.mem_filter]
              simp [Loc.isCell]
            exact ⟨key own, key own'⟩
        · cases hc
    obtain ⟨dst, op, ty, pos, after, guard⟩ := o
    have hop : ∀ s, .tmp s ∈ op.operands.toList → ∀ q, Loc.slot s = .slot q → ¬ S q := by
      intro s hm q e hq
      injection e with e; subst e
      exact hS s hq (by unfold opSlots; exact List.mem_filterMap.2 ⟨_, hm, rfl⟩)
    cases op
    case move x =>
      cases x with
      | tmp v =>
        have hv := hop v (by simp [Op.operands])
        simp only [core] at h ⊢
        rw [← like_owns hl hv]
        injection h with h; subst h
        cases hb : (owns own (.slot v) && appDst ops dst)
        · exact ⟨_, rfl, hl, fun s _ => ⟨Iff.rfl, Iff.rfl⟩⟩
        · exact ⟨_, rfl, hl.drop _, fun s hs => ⟨hdropS _ _ hv s hs, hdropS _ _ hv s hs⟩⟩
      | _ => cases he
    case load t a =>
      simp only [core] at h ⊢
      cases hp : evalO env a with
      | none => rw [hp] at h; cases h
      | some p =>
        rw [hp] at h
        simp only at h ⊢
        cases hld : loadA P H t p with
        | none => rw [hld] at h; cases h
        | some x =>
          rw [hld] at h
          simp only at h ⊢
          cases p with
          | ptr id off =>
            simp only at h ⊢
            rw [← like_owns hl (hcell id off)]
            injection h with h; subst h
            cases hb : (owns own (.cell id off) && appDst ops dst && (sizeT P t == some 1) && (isAggT P t == some false))
            · exact ⟨_, rfl, hl, fun s _ => ⟨Iff.rfl, Iff.rfl⟩⟩
            · exact ⟨_, rfl, hl.drop _, fun s hs => ⟨hdropS _ _ (hcell id off) s hs, hdropS _ _ (hcell id off) s hs⟩⟩
          | _ =>
            simp only at h ⊢
            injection h with h; subst h
            exact ⟨_, rfl, hl, fun s _ => ⟨Iff.rfl, Iff.rfl⟩⟩
    case assign x =>
      simp only [core] at h ⊢
      cases hv : evalO env x with
      | none => rw [hv] at h; cases h
      | some v =>
        rw [hv] at h
        cases x with
        | tmp s' =>
          have hs' := hop s' (by simp [Op.operands])
          simp only at h ⊢
          rw [← like_owns hl hs']
          injection h with h; subst h
          cases hb : owns own (.slot s')
          · exact ⟨_, rfl, hl, fun s _ => ⟨Iff.rfl, Iff.rfl⟩⟩
          · exact ⟨_, rfl, hl.drop _, fun s hs => ⟨hdropS _ _ hs' s hs, hdropS _ _ hs' s hs⟩⟩
        | _ =>
          simp only at h ⊢
          injection h with h; subst h
          exact ⟨_, rfl, hl, fun s _ => ⟨Iff.rfl, Iff.rfl⟩⟩
    case store t a x =>
      simp only [core] at h ⊢
      split at h
      · rename_i id off v h1 h2
        split at h
        · rename_i H' h3
          injection h with h; subst h
          simp only [h3]
          cases x with
          | tmp q =>
            have hq := hop q (by simp [Op.operands])
            simp only
            rw [← like_owns hl hq]
            cases hb : (owns own (.slot q) && v.isOne)
            · exact ⟨_, rfl, hl.cells _ _ _, fun s hs => ⟨hcellS _ _ _ _ s hs, hcellS _ _ _ _ s hs⟩⟩
            · refine ⟨_, rfl, ((hl.cells _ _ _).drop _).give _, fun s hs => ?_⟩
              have key : ∀ oo : List Loc, (Loc.slot s ∈ give (drop (dropCells oo id off v.cells.length) (.slot q)) (.cell id off) ↔ Loc.slot s ∈ oo) := by
                intro oo
                rw [mem_give]
                constructor
                · rintro (e | ⟨e, _⟩)
                  · cases e
                  · exact (hcellS _ _ _ _ s hs).1 ((hdropS _ _ hq s hs).1 e)
                · intro e
                  exact .inr ⟨(hdropS _ _ hq s hs).2 ((hcellS _ _ _ _ s hs).2 e), by intro e; cases e⟩
              exact ⟨key own, key own'⟩
          | _ => exact ⟨_, rfl, hl.cells _ _ _, fun s hs => ⟨hcellS _ _ _ _ s hs, hcellS _ _ _ _ s hs⟩⟩
        · cases h
      · cases h
    case call c =>
      obtain ⟨callee, args, at_⟩ := c
      cases callee with
      | value f =>
        simp only [core] at h ⊢
        split at h
        · exact hcallA _ _ h
        · exact hcallA _ _ h
        · cases h
      | invoke rv name =>
        simp only [core] at h ⊢
        split at h
        · split at h
          · exact hcallA _ _ h
          · cases h
        · cases h
      | builtin b =>
        cases b
        case append =>
          simp only [core] at h ⊢
          split at h
          · rename_i s x ts tx ha hb
            have hs' : ∀ t, s = .tmp t → ∀ q, Loc.slot t = .slot q → ¬ S q := fun t e => hop t (by simp only [Op.operands, Call.operands, Array.toList_append, ha, e]; simp)
            unfold appendA at h ⊢
            split at h
            · rename_i e a b h3 h4 h5
              split at h
              · rename_i ys i z h6 h7 h8
                split at h
                · split at h
                  · rename_i hc
                    injection h with h; subst h
                    refine ⟨_, by simp only [h6, h7, h8, if_pos hc]; rfl, ?_, ?_⟩
                    · cases s <;> first | exact hl | exact hl.drop _
                    · intro q hq
                      cases s with
                      | tmp t => exact ⟨hdropS _ _ (hs' t rfl) q hq, hdropS _ _ (hs' t rfl) q hq⟩
                      | _ => exact ⟨Iff.rfl, Iff.rfl⟩
                  · cases h
                · split at h
                  · rename_i t
                    split at h
                    · rename_i hc
                      injection h with h; subst h
                      refine ⟨_, by simp only [h6, h7, h8]; rw [← like_owns hl (hs' t rfl)]; simp only [if_pos hc], hl.drop _, fun s hs => ⟨hdropS _ _ (hs' t rfl) s hs, hdropS _ _ (hs' t rfl) s hs⟩⟩
                    · cases h
                  · cases h
                · cases h
              · cases h
            · cases h
          · cases h
        all_goals cases he
    all_goals cases he

end
end Go.Proofs.YtomheegfobcijaaGreatDoor.Am

/- Operations on maps: what they read, what they leave. -/
namespace Go.Proofs.YtomheegfobcijaaGreatDoor.Am
set_option linter.unusedVariables false
set_option linter.unusedSimpArgs false
open Go.RowKit

/-- Blocks below stay. -/
def Lock (lo : Nat) (H H' : List (Option Blk)) : Prop := H.length ≤ H'.length ∧ ∀ i, i < lo → H'[i]? = H[i]?
theorem Lock.refl (lo : Nat) (H : List (Option Blk)) : Lock lo H H := ⟨Nat.le_refl _, fun _ _ => rfl⟩
theorem Lock.trans {lo : Nat} {A B C : List (Option Blk)} (h : Lock lo A B) (k : Lock lo B C) : Lock lo A C := ⟨Nat.le_trans h.1 k.1, fun i hi => (k.2 i hi).trans (h.2 i hi)⟩
theorem Lock.le {lo lo' : Nat} {A B : List (Option Blk)} (h : Lock lo A B) (hl : lo' ≤ lo) : Lock lo' A B := ⟨h.1, fun i hi => h.2 i (by omega)⟩
theorem Lock.app {lo : Nat} {H : List (Option Blk)} (hl : lo ≤ H.length) (E : List (Option Blk)) : Lock lo H (H ++ E) := ⟨by rw [List.length_append]; omega, fun i hi => List.getElem?_append_left (by omega)⟩
theorem Lock.set {lo : Nat} {H : List (Option Blk)} {id : Nat} (hl : Nat.ble lo id = true) (k : Option Blk) : Lock lo H (H.set id k) :=
  ⟨by rw [List.length_set]; exact Nat.le_refl _, fun i hi => List.getElem?_set_ne (by have := Nat.ble_eq.mp hl; omega)⟩
def CallLock (call : CallA) : Prop := ∀ f args H own x H' own', call f args H own = some (x, H', own') → call.lo ≤ H.length → Lock call.lo H H'
def CallLen (call : CallA) : Prop := ∀ f args H own x H' own', call f args H own = some (x, H', own') → H.length ≤ H'.length
def FullLock (call : CallA) : Prop := ∀ f args H own x H' own', call f args H own = some (x, H', own') → Lock H.length H H'
def CallFill (call : CallA) : Prop := ∀ f args H own x H' own' p k, call f args H own = some (x, H', own') → H[p]? = some none → H'[p]? = some none ∧ call f args (H.set p (some k)) own = some (x, H'.set p (some k), own')

section
variable {P : Program} {lo : Nat}

theorem coreM_env {env env' : List (Nat × AV)} {H : List (Option Blk)} {own : List Loc} {o : Oper} (h : ∀ s ∈ opSlots o, look env s = look env' s) : coreM lo P o env H own = coreM lo P o env' H own := by
  have hs : ∀ s, .tmp s ∈ o.op.operands.toList → look env s = look env' s := by
    intro s hm
    exact h s (by unfold opSlots; exact List.mem_filterMap.2 ⟨_, hm, rfl⟩)
  have hx : ∀ x ∈ o.op.operands.toList, evalO env x = evalO env' x := fun x hm => evalO_env fun s e => hs s (e ▸ hm)
  clear h hs
  obtain ⟨dst, op, ty, pos, after, guard⟩ := o
  simp only at hx
  unfold coreM
  simp only
  split
  · rfl
  · rename_i t x i ok; rw [hx x (by simp [Op.operands]), hx i (by simp [Op.operands])]
  · rename_i t m k v; rw [hx m (by simp [Op.operands]), hx k (by simp [Op.operands]), hx v (by simp [Op.operands])]
  · rename_i args argTypes
    split
    · rename_i m k t kt e1 e2
      simp only [Op.operands, Call.operands] at hx
      have hargs : ∀ x ∈ args.toList, evalO env x = evalO env' x := fun x hm => hx x (by simpa using hm)
      rw [e1] at hargs
      rw [hargs m (by simp), hargs k (by simp)]
    · rfl
  · rename_i args argTypes
    split
    · rename_i x t e1 e2
      simp only [Op.operands, Call.operands] at hx
      have hargs : ∀ x ∈ args.toList, evalO env x = evalO env' x := fun x hm => hx x (by simpa using hm)
      rw [e1] at hargs
      rw [hargs x (by simp)]
    · rfl
  · rfl
theorem coreM_own {env : List (Nat × AV)} {H : List (Option Blk)} {own : List Loc} {o : Oper} {r : Res} (h : coreM lo P o env H own = some r) : r.own = own ∧ ∀ own', coreM lo P o env H own' = some ⟨r.val, r.H, own', r.gives⟩ := by
  unfold coreM at h ⊢
  split at h
  · injection h with h; subst h; exact ⟨rfl, fun _ => rfl⟩
  · split at h
    · rename_i p q hp hq
      unfold plainRes at h ⊢
      cases hl : lookupA P H _ p q _ with
      | none => rw [hl] at h; cases h
      | some y => rw [hl] at h; injection h with h; subst h; exact ⟨rfl, fun _ => by simp only [hl]; rfl⟩
    · cases h
  · split at h
    · rename_i p q y hp hq hy
      split at h
      · rename_i id l hu
        cases hb : Nat.ble lo id with
        | false => rw [hb] at h; cases h
        | true => rw [hb] at h; injection h with h; subst h; exact ⟨rfl, fun _ => by simp only [hu, hb]; rfl⟩
      · cases h
    · cases h
  · split at h
    · split at h
      · split at h
        · rename_i id l hu
          cases hb : Nat.ble lo id with
          | false => rw [hb] at h; cases h
          | true => rw [hb] at h; injection h with h; subst h; exact ⟨rfl, fun _ => by simp only [hu, hb]; rfl⟩
        · cases h
      · cases h
    · cases h
  · split at h
    · split at h
      · split at h
        · rename_i p hp
          unfold plainRes at h ⊢
          cases hl : entriesA H p with
          | none => rw [hl] at h; cases h
          | some y => rw [hl] at h; injection h with h; subst h; exact ⟨rfl, fun _ => by simp only [hl]; rfl⟩
        · cases h
      · cases h
    · cases h
  · cases h
theorem coreM_lock {env : List (Nat × AV)} {H : List (Option Blk)} {own : List Loc} {o : Oper} {r : Res} (h : coreM lo P o env H own = some r) (hlo : lo ≤ H.length) : Lock lo H r.H := by
  unfold coreM at h
  split at h
  · injection h with h; subst h; exact Lock.app hlo _
  · split at h
    · unfold plainRes at h
      cases hl : lookupA P H _ _ _ _ with
      | none => rw [hl] at h; cases h
      | some y => rw [hl] at h; injection h with h; subst h; exact Lock.refl _ _
    · cases h
  · split at h
    · split at h
      · rename_i id l hu
        cases hb : Nat.ble lo id with
        | false => rw [hb] at h; cases h
        | true => rw [hb] at h; injection h with h; subst h; exact Lock.set hb _
      · cases h
    · cases h
  · split at h
    · split at h
      · split at h
        · rename_i id l hu
          cases hb : Nat.ble lo id with
          | false => rw [hb] at h; cases h
          | true => rw [hb] at h; injection h with h; subst h; exact Lock.set hb _
        · cases h
      · cases h
    · cases h
  · split at h
    · split at h
      · split at h
        · unfold plainRes at h
          cases hl : entriesA H _ with
          | none => rw [hl] at h; cases h
          | some y => rw [hl] at h; injection h with h; subst h; exact Lock.refl _ _
        · cases h
      · cases h
    · cases h
  · cases h
theorem coreM_len {env : List (Nat × AV)} {H : List (Option Blk)} {own : List Loc} {o : Oper} {r : Res} (h : coreM lo P o env H own = some r) : H.length ≤ r.H.length := by
  unfold coreM at h
  split at h
  · injection h with h; subst h; rw [List.length_append]; exact Nat.le_add_right _ _
  · split at h
    · unfold plainRes at h
      cases hl : lookupA P H _ _ _ _ with
      | none => rw [hl] at h; cases h
      | some y => rw [hl] at h; injection h with h; subst h; exact Nat.le_refl _
    · cases h
  · split at h
    · split at h
      · rename_i id l hu
        cases hb : Nat.ble lo id with
        | false => rw [hb] at h; cases h
        | true => rw [hb] at h; injection h with h; subst h; exact Nat.le_of_eq List.length_set.symm
      · cases h
    · cases h
  · split at h
    · split at h
      · split at h
        · rename_i id l hu
          cases hb : Nat.ble lo id with
          | false => rw [hb] at h; cases h
          | true => rw [hb] at h; injection h with h; subst h; exact Nat.le_of_eq List.length_set.symm
        · cases h
      · cases h
    · cases h
  · split at h
    · split at h
      · split at h
        · unfold plainRes at h
          cases hl : entriesA H _ with
          | none => rw [hl] at h; cases h
          | some y => rw [hl] at h; injection h with h; subst h; exact Nat.le_refl _
        · cases h
      · cases h
    · cases h
  · cases h
theorem getMap_to {H H' : List (Option Blk)} {id : Nat} (h : H'[id]? = H[id]?) : getMap H' id = getMap H id := by unfold getMap; rw [h]
theorem getMapR_to {H H' : List (Option Blk)} {id : Nat} (h : H'[id]? = H[id]?) : getMapR H' id = getMapR H id := by unfold getMapR; rw [h]
theorem getMapR_live {H : List (Option Blk)} {id : Nat} {l : List (AV × AV)} (h : getMapR H id = some l) : ∃ k, H[id]? = some (some k) := by
  rcases getMapR_some h with h | h
  · exact ⟨_, h⟩
  · exact ⟨_, h⟩
theorem getMapR_ne {H : List (Option Blk)} {id : Nat} {l : List (AV × AV)} (h : getMapR H id = some l) {p : Nat} (hp : H[p]? = some none) : id ≠ p := by
  rintro rfl
  obtain ⟨k, hk⟩ := getMapR_live h
  rw [hk] at hp; cases hp
/-- The map that is asked. -/
def mapAsk : AV → Option Nat
  | .map id => some id
  | _ => none
theorem entries_to {H H' : List (Option Blk)} {x : AV} (h : ∀ id, mapAsk x = some id → H'[id]? = H[id]?) : entriesA H' x = entriesA H x := by
  unfold entriesA
  split
  · rfl
  · rename_i id; exact getMapR_to (h id rfl)
  · rfl
theorem lookup_to {H H' : List (Option Blk)} {t : TypeId} {x i : AV} {ok : Bool} (h : ∀ id, mapAsk x = some id → H'[id]? = H[id]?) : lookupA P H' t x i ok = lookupA P H t x i ok := by
  unfold lookupA
  rw [entries_to h]
theorem upd_to {H H' : List (Option Blk)} {t : TypeId} {x i v : AV} (h : ∀ id, mapAsk x = some id → H'[id]? = H[id]?) : updA P H' t x i v = updA P H t x i v := by
  unfold updA
  split
  · rename_i id _; rw [getMap_to (h id rfl)]
  · rfl
theorem del_to {H H' : List (Option Blk)} {t : TypeId} {x i : AV} (h : ∀ id, mapAsk x = some id → H'[id]? = H[id]?) : delA P H' t x i = delA P H t x i := by
  unfold delA
  split
  · rename_i id _; rw [getMap_to (h id rfl)]
  · rfl
theorem getMap_live {H : List (Option Blk)} {id : Nat} {l : List (AV × AV)} (h : getMap H id = some l) {p : Nat} (hp : H[p]? = some none) : id ≠ p := by
  rintro rfl
  have := getMap_some h
  rw [hp] at this; cases this
theorem entries_fill {H : List (Option Blk)} {x : AV} {l : List (AV × AV)} (h : entriesA H x = some l) {p : Nat} (hp : H[p]? = some none) (k : Option Blk) : ∀ id, mapAsk x = some id → (H.set p k)[id]? = H[id]? := by
  intro id hid
  unfold mapAsk at hid
  split at hid
  · injection hid with hid; subst hid
    exact List.getElem?_set_ne (Ne.symm (getMapR_ne h hp))
  · cases hid
theorem lookup_live {H : List (Option Blk)} {t : TypeId} {x i y : AV} {ok : Bool} (h : lookupA P H t x i ok = some y) : ∃ l, entriesA H x = some l := by
  unfold lookupA at h
  split at h
  · split at h
    · rename_i d _
      cases hk : keyD d with
      | false => rw [hk] at h; cases h
      | true =>
        rw [hk, cond_true] at h
        split at h
        · rename_i l hl; exact ⟨l, hl⟩
        · cases h
    · cases h
  · cases h
theorem upd_live {H : List (Option Blk)} {t : TypeId} {x i v : AV} {id : Nat} {l' : List (AV × AV)} (h : updA P H t x i v = some (id, l')) : x = .map id ∧ ∃ l, getMap H id = some l := by
  unfold updA at h
  split at h
  · split at h
    · rename_i d l hd hl
      cases hk : keyD d with
      | false => rw [hk] at h; cases h
      | true =>
        rw [hk, cond_true] at h
        split at h
        · injection h with h; injection h with h1 _; subst h1; exact ⟨rfl, l, hl⟩
        · injection h with h; injection h with h1 _; subst h1; exact ⟨rfl, l, hl⟩
        · cases h
    · cases h
  · cases h
theorem del_live {H : List (Option Blk)} {t : TypeId} {x i : AV} {id : Nat} {l' : List (AV × AV)} (h : delA P H t x i = some (id, l')) : x = .map id ∧ ∃ l, getMap H id = some l := by
  unfold delA at h
  split at h
  · split at h
    · rename_i d l hd hl
      cases hk : keyD d with
      | false => rw [hk] at h; cases h
      | true =>
        rw [hk, cond_true] at h
        split at h
        · injection h with h; injection h with h1 _; subst h1; exact ⟨rfl, l, hl⟩
        · injection h with h; injection h with h1 _; subst h1; exact ⟨rfl, l, hl⟩
        · cases h
    · cases h
  · cases h
theorem coreM_fill {env : List (Nat × AV)} {H : List (Option Blk)} {own : List Loc} {o : Oper} {r : Res} (h : coreM lo P o env H own = some r) {p : Nat} (hp : H[p]? = some none) (k : Blk) :
    r.H[p]? = some none ∧ coreM lo P o env (H.set p (some k)) own = some { r with H := r.H.set p (some k) } := by
  have hlt : p < H.length := (List.getElem?_eq_some_iff.1 hp).1
  unfold coreM at h ⊢
  split at h
  · injection h with h; subst h
    refine ⟨by rw [List.getElem?_append_left hlt]; exact hp, ?_⟩
    simp only [List.length_set]
    rw [List.set_append_left _ _ hlt]
  · split at h
    · rename_i a b _ _
      unfold plainRes at h ⊢
      cases hl : lookupA P H _ a b _ with
      | none => rw [hl] at h; cases h
      | some y =>
        rw [hl] at h; injection h with h; subst h
        obtain ⟨l, hl2⟩ := lookup_live hl
        refine ⟨hp, ?_⟩
        simp only [lookup_to (entries_fill hl2 hp (some k)), hl]
        rfl
    · cases h
  · split at h
    · split at h
      · rename_i id l hu
        cases hb : Nat.ble lo id with
        | false => rw [hb] at h; cases h
        | true =>
          rw [hb] at h; injection h with h; subst h
          obtain ⟨rfl, l0, hl0⟩ := upd_live hu
          have hne := getMap_live hl0 hp
          refine ⟨by rw [List.getElem?_set_ne hne]; exact hp, ?_⟩
          have hst : ∀ i, mapAsk (.map id) = some i → (H.set p (some k))[i]? = H[i]? := fun i hi => by injection hi with hi; subst hi; exact List.getElem?_set_ne (Ne.symm hne)
          rw [upd_to hst, hu]
          simp only [hb, cond_true]
          rw [List.set_comm _ _ (Ne.symm hne)]
      · cases h
    · cases h
  · split at h
    · split at h
      · split at h
        · rename_i id l hu
          cases hb : Nat.ble lo id with
          | false => rw [hb] at h; cases h
          | true =>
            rw [hb] at h; injection h with h; subst h
            obtain ⟨rfl, l0, hl0⟩ := del_live hu
            have hne := getMap_live hl0 hp
            refine ⟨by rw [List.getElem?_set_ne hne]; exact hp, ?_⟩
            have hst : ∀ i, mapAsk (.map id) = some i → (H.set p (some k))[i]? = H[i]? := fun i hi => by injection hi with hi; subst hi; exact List.getElem?_set_ne (Ne.symm hne)
            rw [del_to hst, hu]
            simp only [hb, cond_true]
            rw [List.set_comm _ _ (Ne.symm hne)]
        · cases h
      · cases h
    · cases h
  · split at h
    · split at h
      · split at h
        · rename_i a _
          unfold plainRes at h ⊢
          cases hl : entriesA H a with
          | none => rw [hl] at h; cases h
          | some y =>
            rw [hl] at h; injection h with h; subst h
            refine ⟨hp, ?_⟩
            simp only [entries_to (entries_fill hl hp (some k)), hl]
            rfl
        · cases h
      · cases h
    · cases h
  · cases h
/-- An operation that only reads a map. -/
theorem coreM_heap {env : List (Nat × AV)} {H : List (Option Blk)} {own : List Loc} {o : Oper} {r : Res} (hr : isMapW o = false) (h : coreM lo P o env H own = some r) :
    r.H = H ∧ ∀ H', (∀ x a id, o.op.operands.toList.head? = some x → evalO env x = some a → mapAsk a = some id → (∃ k, H[id]? = some (some k)) → H'[id]? = H[id]?) → coreM lo P o env H' own = some ⟨r.val, H', r.own, r.gives⟩ := by
  have live : ∀ {x : AV} {l : List (AV × AV)} {id : Nat}, entriesA H x = some l → mapAsk x = some id → ∃ k, H[id]? = some (some k) := by
    intro x l id h1 h2
    unfold mapAsk at h2
    split at h2
    · injection h2 with h2; subst h2
      exact getMapR_live h1
    · cases h2
  obtain ⟨dst, op, ty, pos, after, guard⟩ := o
  unfold coreM at h ⊢
  simp only at h ⊢
  split at h
  · cases hr
  · rename_i t x i ok
    split at h
    · rename_i a b ha hb
      unfold plainRes at h ⊢
      cases hl : lookupA P H t a b ok with
      | none => rw [hl] at h; cases h
      | some y =>
        rw [hl] at h; injection h with h; subst h
        obtain ⟨l, hl2⟩ := lookup_live hl
        refine ⟨rfl, fun H' hyp => ?_⟩
        simp only [lookup_to (H' := H') (H := H) (x := a) (fun id hid => hyp x a id (by simp [Op.operands]) ha hid (live hl2 hid)), hl]
        rfl
    · cases h
  · cases hr
  · cases hr
  · rename_i args argTypes
    split at h
    · rename_i x t e1 e2
      split at h
      · split at h
        · rename_i a ha
          unfold plainRes at h ⊢
          cases hl : entriesA H a with
          | none => rw [hl] at h; cases h
          | some y =>
            rw [hl] at h; injection h with h; subst h
            refine ⟨rfl, fun H' hyp => ?_⟩
            simp only [entries_to (H' := H') (H := H) (x := a) (fun id hid => hyp x a id (by simp only [Op.operands, Call.operands, Array.toList_append, List.nil_append, e1, List.head?_cons]) ha hid (live hl hid)), hl]
            rfl
        · cases h
      · cases h
    · cases h
  · cases h
end
end Go.Proofs.YtomheegfobcijaaGreatDoor.Am

/- What calls leave as it was; and that they do not look at places that are kept. -/
namespace Go.Proofs.YtomheegfobcijaaGreatDoor.Am
set_option linter.unusedVariables false
set_option linter.unusedSimpArgs false
open Go.RowKit

section
variable {P : Program} {call : CallA} {ops : List Oper}

theorem hole_ne {H : List (Option Blk)} {p id : Nat} {k : Blk} (hp : H[p]? = some none) (hk : H[id]? = some (some k)) : id ≠ p := by
  rintro rfl; rw [hp] at hk; cases hk
theorem hole_lt {H : List (Option Blk)} {p : Nat} (hp : H[p]? = some none) : p < H.length := (List.getElem?_eq_some_iff.1 hp).1

theorem callA_lock (hl : CallLock call) {H : List (Option Blk)} {own : List Loc} {f : FuncId} {args : List AV} {r : Res} (h : callA call P H own f args = some r) (hlo : call.lo ≤ H.length) : Lock call.lo H r.H := by
  unfold callA at h
  cases hb : hasBody P f with
  | false => rw [hb] at h; cases h
  | true =>
    rw [hb] at h
    simp only [cond_true] at h
    split at h
    · rename_i x H' own' hc
      injection h with h; subst h
      exact hl f args H _ x H' own' hc hlo
    · cases h
theorem callA_fill (hl : CallFill call) {H : List (Option Blk)} {own : List Loc} {f : FuncId} {args : List AV} {r : Res} (h : callA call P H own f args = some r) {p : Nat} (hp : H[p]? = some none) (k : Blk) :
    r.H[p]? = some none ∧ callA call P (H.set p (some k)) own f args = some { r with H := r.H.set p (some k) } := by
  unfold callA at h ⊢
  cases hb : hasBody P f with
  | false => rw [hb] at h; cases h
  | true =>
    rw [hb] at h
    simp only [cond_true] at h ⊢
    split at h
    · rename_i x H' own' hc
      injection h with h; subst h
      obtain ⟨h1, h2⟩ := hl f args H _ x H' own' p k hc hp
      exact ⟨h1, by rw [h2]⟩
    · cases h
theorem method_fill {H : List (Option Blk)} {t : TypeId} {v : AV} {name : String} {f : FuncId} {x : AV} (h : methodA P H t v name = some (f, x)) {p : Nat} (hp : H[p]? = some none) (k : Blk) : methodA P (H.set p (some k)) t v name = some (f, x) := by
  have hld : ∀ e y z, loadA P H e y = some z → loadA P (H.set p (some k)) e y = some z := by
    intro e y z hz
    unfold loadA at hz ⊢
    split at hz
    · rename_i n hn
      split at hz
      · rename_i id off
        have : readCells (H.set p (some k)) id off n = readCells H id off n ∨ readCells H id off n = none := by
          by_cases hid : id = p
          · subst hid; right; unfold readCells; rw [hp]
          · left; unfold readCells; rw [List.getElem?_set_ne (fun e => hid e.symm)]
        rcases this with e | e
        · rw [e]; exact hz
        · rw [e] at hz; cases hz
      · exact hz
      · cases hz
    · cases hz
  unfold methodA at h ⊢
  split at h
  · split at h
    · split at h
      · rename_i hp0
        rw [if_pos hp0]
        split at h
        · exact h
        · split at h
          · rename_i id off
            cases hl : loadA P H _ (.ptr id off) with
            | none => rw [hl] at h; cases h
            | some y => rw [hl] at h; rw [hld _ _ _ hl]; exact h
          · cases h
        · exact h
        · exact h
        · exact h
        · cases h
      · cases h
    · cases h
  · cases h

/-- An operation that may write. -/
theorem heapC_cases {o : Oper} (h : heapC o = true) : (∃ t a x, o.op = .store t a x) ∨ (∃ f args at_, o.op = .call { callee := .value f, args := args, argTypes := at_ }) ∨ ∃ r n args at_, o.op = .call { callee := .invoke r n, args := args, argTypes := at_ } := by
  obtain ⟨dst, op, ty, pos, after, guard⟩ := o
  unfold heapC at h
  simp only at h ⊢
  split at h
  · exact .inl ⟨_, _, _, rfl⟩
  · exact .inr (.inl ⟨_, _, _, rfl⟩)
  · exact .inr (.inr ⟨_, _, _, _, rfl⟩)
  · cases h
theorem alloc_cases {o : Oper} (h : allocOp o = true) : (∃ e, o.op = .alloc e) ∨ (∃ e x, o.op = .box e x) ∨ ∃ t, o.op = .makeMap t none := by
  obtain ⟨dst, op, ty, pos, after, guard⟩ := o
  unfold allocOp at h
  simp only at h ⊢
  split at h
  · exact .inl ⟨_, rfl⟩
  · exact .inr (.inl ⟨_, _, rfl⟩)
  · exact .inr (.inr ⟨_, rfl⟩)
  · cases h

theorem core_lock (hl : CallLock call) {env : List (Nat × AV)} {H : List (Option Blk)} {own : List Loc} {o : Oper} {r : Res} (h : core call P ops o env H own = some r) (hlo : call.lo ≤ H.length) : Lock call.lo H r.H := by
  cases ha : allocOp o with
  | true =>
    rcases alloc_cases ha with ⟨e, e1⟩ | ⟨e, x, e1⟩ | ⟨t, e1⟩
    · unfold core at h
      rw [e1] at h
      simp only at h
      split at h
      · split at h
        · injection h with h; subst h; exact Lock.app hlo _
        · cases h
      · cases h
    · unfold core at h
      rw [e1] at h
      simp only at h
      split at h
      · split at h
        · injection h with h; subst h; exact Lock.app hlo _
        · cases h
      · cases h
    · unfold core at h
      rw [e1] at h
      cases h
  | false =>
    cases hh : heapC o with
    | false => rw [(core_heapC hh ha h).1]; exact Lock.refl _ _
    | true =>
      rcases heapC_cases hh with ⟨t, a, x, e1⟩ | ⟨f, args, at_, e1⟩ | ⟨rv, nm, args, at_, e1⟩
      · unfold core at h
        rw [e1] at h
        simp only at h
        split at h
        · split at h
          · rename_i H' hs
            injection h with h; subst h
            obtain ⟨h1, h2⟩ := storeL_some hs
            unfold storeA at h2
            split at h2
            · rename_i q1 q2
              injection q1 with q1 _
              subst q1
              split at h2
              · split at h2
                · injection h2 with h2; subst h2; exact Lock.set h1 _
                · cases h2
              · cases h2
            · cases h2
          · cases h
        · cases h
      · unfold core at h
        rw [e1] at h
        simp only at h
        split at h
        · exact callA_lock hl h hlo
        · exact callA_lock hl h hlo
        · cases h
      · unfold core at h
        rw [e1] at h
        simp only at h
        split at h
        · split at h
          · exact callA_lock hl h hlo
          · cases h
        · cases h

theorem load_fill_live {env : List (Nat × AV)} {H : List (Option Blk)} {own : List Loc} {o : Oper} {r : Res} (h : core call P ops o env H own = some r) {p : Nat} (hp : H[p]? = some none) (k : Blk) :
    ∀ t a id off, o.op = .load t a → evalO env a = some (.ptr id off) → (H.set p (some k))[id]? = H[id]? := by
  intro t a id off e1 e2
  rw [List.getElem?_set_ne]
  rintro rfl
  unfold core at h
  rw [e1] at h
  simp only [e2] at h
  split at h
  · rename_i x hx
    unfold loadA at hx
    split at hx
    · simp only [readCells, hp] at hx
      cases hx
    · cases hx
  · cases h

theorem core_fill (hl : CallFill call) {env : List (Nat × AV)} {H : List (Option Blk)} {own : List Loc} {o : Oper} {r : Res} (h : core call P ops o env H own = some r) {p : Nat} (hp : H[p]? = some none) (k : Blk) :
    r.H[p]? = some none ∧ core call P ops o env (H.set p (some k)) own = some { r with H := r.H.set p (some k) } := by
  have hlt := hole_lt hp
  have app : ∀ E : List (Option Blk), (H ++ E)[p]? = some none ∧ (H.set p (some k)) ++ E = (H ++ E).set p (some k) ∧ (H.set p (some k)).length = H.length := by
    intro E
    refine ⟨by rw [List.getElem?_append_left hlt]; exact hp, ?_, List.length_set⟩
    rw [List.set_append_left _ _ hlt]
  cases ha : allocOp o with
  | true =>
    rcases alloc_cases ha with ⟨e, e1⟩ | ⟨e, x, e1⟩ | ⟨t, e1⟩
    · unfold core at h ⊢
      rw [e1] at h ⊢
      simp only at h ⊢
      split at h
      · split at h
        · rename_i hc
          injection h with h; subst h
          obtain ⟨a1, a2, a3⟩ := app [some ⟨e, _⟩]
          exact ⟨a1, by simp only [if_pos hc, a2, a3]⟩
        · cases h
      · cases h
    · unfold core at h ⊢
      rw [e1] at h ⊢
      simp only at h ⊢
      split at h
      · split at h
        · rename_i hc
          injection h with h; subst h
          obtain ⟨a1, a2, a3⟩ := app [some ⟨e, _⟩]
          exact ⟨a1, by simp only [if_pos hc, a2, a3]⟩
        · cases h
      · cases h
    · unfold core at h
      rw [e1] at h
      cases h
  | false =>
    cases hh : heapC o with
    | false =>
      obtain ⟨h1, h2⟩ := core_heapC hh ha h
      exact ⟨by rw [h1]; exact hp, by rw [h2 _ (load_fill_live h hp k), h1]⟩
    | true =>
      rcases heapC_cases hh with ⟨t, a, x, e1⟩ | ⟨f, args, at_, e1⟩ | ⟨rv, nm, args, at_, e1⟩
      · unfold core at h ⊢
        rw [e1] at h ⊢
        simp only at h ⊢
        split at h
        · rename_i id off v h1 h2
          split at h
          · rename_i H' hs
            injection h with h; subst h
            obtain ⟨hb, hs⟩ := storeL_some hs
            unfold storeA at hs
            split at hs
            · rename_i id' off' n q1 q2
              injection q1 with q1 q1'
              subst q1 q1'
              split at hs
              · rename_i b hbk
                split at hs
                · rename_i hc
                  injection hs with hs
                  have hne := hole_ne hp hbk
                  have e2 : storeL call.lo P (H.set p (some k)) t (.ptr id off) v = some (H'.set p (some k)) := by
                    unfold storeL storeA
                    simp only [hb, cond_true, q2, List.getElem?_set_ne (Ne.symm hne), hbk, if_pos hc]
                    rw [← hs, List.set_comm _ _ hne]
                  refine ⟨?_, by simp only [e2]⟩
                  show H'[p]? = _
                  rw [← hs, List.getElem?_set_ne hne]; exact hp
                · cases hs
              · cases hs
            · cases hs
          · cases h
        · cases h
      · unfold core at h ⊢
        rw [e1] at h ⊢
        simp only at h ⊢
        split at h
        · exact callA_fill hl h hp k
        · exact callA_fill hl h hp k
        · cases h
      · unfold core at h ⊢
        rw [e1] at h ⊢
        simp only at h ⊢
        split at h
        · split at h
          · rename_i f x hm
            rw [method_fill hm hp k]
            exact callA_fill hl h hp k
          · cases h
        · cases h

theorem newSl_lock {e : TypeId} {op : Op} {env : List (Nat × AV)} {H : List (Option Blk)} {own : List Loc} {r : Res} {lo : Nat} (hk : okSl lo op env = true) (h : newSl P e op env H own = some r) (hlo : lo ≤ H.length) : Lock lo H r.H := by
  unfold newSl at h
  split at h
  · split at h
    · split at h
      · split at h
        · injection h with h; subst h; exact Lock.app hlo _
        · cases h
      · cases h
    · cases h
  · rename_i args argTypes
    split at h
    · rename_i s x ts tx ha hb
      split at h
      · rename_i e' av bv h1 h2 h3
        split at h
        · split at h
          · split at h
            · injection h with h; subst h; exact Lock.app hlo _
            · cases h
          · rename_i e'' id off len
            split at h
            · split at h
              · injection h with h; subst h
                unfold okSl at hk
                simp only [ha, h2] at hk
                exact (Lock.set hk _).trans (Lock.app (by rw [List.length_set]; exact hlo) _)
              · cases h
            · cases h
          · cases h
        · cases h
      · cases h
    · cases h
  · cases h
theorem newSl_fill {e : TypeId} {op : Op} {env : List (Nat × AV)} {H : List (Option Blk)} {own : List Loc} {r : Res} (h : newSl P e op env H own = some r) {p : Nat} (hp : H[p]? = some none) (k : Blk) :
    r.H[p]? = some none ∧ newSl P e op env (H.set p (some k)) own = some { r with H := r.H.set p (some k) } := by
  have hlt := hole_lt hp
  have app : ∀ E : List (Option Blk), (H ++ E)[p]? = some none ∧ (H.set p (some k)) ++ E = (H ++ E).set p (some k) ∧ (H.set p (some k)).length = H.length := by
    intro E
    refine ⟨by rw [List.getElem?_append_left hlt]; exact hp, ?_, List.length_set⟩
    rw [List.set_append_left _ _ hlt]
  unfold newSl at h ⊢
  split at h
  · split at h
    · rename_i e' n c h1 h2 h3
      split at h
      · rename_i n' c' i z h4 h5 h6 h7
        split at h
        · rename_i hc
          injection h with h; subst h
          obtain ⟨a1, a2, a3⟩ := app [some ⟨e, rep c' z⟩]
          exact ⟨a1, by simp only [h1, h2, h3, h4, h5, h6, h7, if_pos hc, a2, a3]⟩
        · cases h
      · cases h
    · cases h
  · split at h
    · rename_i s x ts tx ha hb
      split at h
      · rename_i e' av bv h1 h2 h3
        split at h
        · rename_i ys i z h4 h5 h6
          split at h
          · split at h
            · rename_i hc
              injection h with h; subst h
              obtain ⟨a1, a2, a3⟩ := app [some ⟨e, flat ys⟩]
              exact ⟨a1, by simp only [h1, h2, h3, h4, h5, h6, if_pos hc, a2, a3]⟩
            · cases h
          · rename_i e'' id off len
            split at h
            · rename_i q hq
              split at h
              · rename_i hc
                injection h with h; subst h
                have hne := hole_ne hp hq
                have hl2 : p < (H.set id (some ⟨e, []⟩)).length := by rw [List.length_set]; exact hlt
                refine ⟨?_, ?_⟩
                · rw [List.getElem?_append_left hl2, List.getElem?_set_ne hne]; exact hp
                · simp only [h1, h2, h3, h4, h5, h6, List.getElem?_set_ne (Ne.symm hne), hq, if_pos hc, List.length_set]
                  rw [List.set_comm _ _ (Ne.symm hne), List.set_append_left _ _ hl2]
              · cases h
            · cases h
          · cases h
        · cases h
      · cases h
    · cases h
  · cases h


theorem coreS_lock (hl : CallLock call) {env : List (Nat × AV)} {H : List (Option Blk)} {own : List Loc} {o : Oper} {r : Res} (h : coreS call P ops o env H own = some r) (hlo : call.lo ≤ H.length) : Lock call.lo H r.H := by
  unfold coreS at h
  split at h
  · cases hk : okSl call.lo o.op env with
    | true => rw [hk] at h; exact newSl_lock hk h hlo
    | false => rw [hk] at h; cases h
  · cases hm : isMapO o with
    | true => rw [hm] at h; exact coreM_lock h hlo
    | false => rw [hm] at h; exact core_lock hl h hlo
theorem coreS_fill (hl : CallFill call) {env : List (Nat × AV)} {H : List (Option Blk)} {own : List Loc} {o : Oper} {r : Res} (h : coreS call P ops o env H own = some r) {p : Nat} (hp : H[p]? = some none) (k : Blk) :
    r.H[p]? = some none ∧ coreS call P ops o env (H.set p (some k)) own = some { r with H := r.H.set p (some k) } := by
  unfold coreS at h ⊢
  split at h
  · cases hk : okSl call.lo o.op env with
    | true => rw [hk] at h; exact newSl_fill h hp k
    | false => rw [hk] at h; cases h
  · cases hm : isMapO o with
    | true => rw [hm] at h; simp only [cond_true] at h ⊢; exact coreM_fill h hp k
    | false => rw [hm] at h; simp only [cond_false] at h ⊢; exact core_fill hl h hp k
theorem newAt_cases {env : List (Nat × AV)} {H : List (Option Blk)} {own : List Loc} {o : Oper} {id : Nat} {r : Res} (h : newAt P o env H own id = some r) :
    ∃ v k, H[id]? = some none ∧ r = ⟨v, H.set id (some k), own, false⟩ ∧ ∀ H' own', H'[id]? = some none → newAt P o env H' own' id = some ⟨v, H'.set id (some k), own', false⟩ := by
  unfold newAt at h ⊢
  split at h
  case h_2 => cases h
  rename_i hh
  split at h
  · split at h
    · rename_i z hz
      split at h
      · rename_i hp
        injection h with h
        exact ⟨_, _, hh, h.symm, fun H' own' e => by rw [e]; simp only [if_pos hp]⟩
      · cases h
    · cases h
  · split at h
    · rename_i v hv
      split at h
      · rename_i hp
        injection h with h
        exact ⟨_, _, hh, h.symm, fun H' own' e => by rw [e]; simp only [if_pos hp]⟩
      · cases h
    · cases h
  · injection h with h
    exact ⟨_, _, hh, h.symm, fun H' own' e => by rw [e]⟩
  · cases h

theorem stepOp_lock (hl : CallLock call) {nt : Nat} {pre : Option (Nat × Option WS)} {o : Oper} {st st' : St} (h : stepOp call P nt pre ops o st = some st') (hlo : call.lo ≤ st.H.length) (hpre : ∀ b lt, pre = some (b, lt) → call.lo ≤ b) : Lock call.lo st.H st'.H := by
  unfold stepOp at h
  split at h
  case h_2 => cases h
  rename_i r hr
  have hH : st'.H = r.H := by
    unfold Res.put at h
    split at h
    · injection h with h; rw [← h]
    · split at h
      · injection h with h; rw [← h]
      · cases h
  rw [hH]
  unfold coreP at hr
  split at hr
  · exact coreS_lock hl hr hlo
  · rename_i b lt
    cases ha : allocOp o with
    | true =>
      rw [ha] at hr
      simp only [cond_true] at hr
      split at hr
      · split at hr
        · rename_i q hq
          obtain ⟨_, k, _, rfl, _⟩ := newAt_cases hr
          exact Lock.set (Nat.ble_eq.mpr (by have := hpre b lt rfl; omega)) _
        · cases hr
      · cases hr
    | false =>
      rw [ha] at hr
      simp only [cond_false] at hr
      cases hlt : (lateNo b lt ops o st.env) with
      | true => rw [hlt] at hr; cases hr
      | false => rw [hlt] at hr; exact coreS_lock hl hr hlo
theorem put_fill {nt : Nat} {r : Res} {env : List (Nat × AV)} {dst : Option Nat} {st' : St} (h : r.put nt env dst = some st') {p : Nat} (k : Blk) : st'.H = r.H ∧ ({ r with H := r.H.set p (some k) } : Res).put nt env dst = some { st' with H := st'.H.set p (some k) } := by
  unfold Res.put at h ⊢
  split at h
  · injection h with h; subst h; exact ⟨rfl, rfl⟩
  · split at h
    · rename_i hd; injection h with h; subst h; exact ⟨rfl, by rw [if_pos hd]⟩
    · cases h
theorem stepOp_fill (hl : CallFill call) {nt : Nat} {pre : Option (Nat × Option WS)} {o : Oper} {st st' : St} (h : stepOp call P nt pre ops o st = some st') {p : Nat} (hp : st.H[p]? = some none) (k : Blk) (hpre : ∀ b lt, pre = some (b, lt) → p < b) :
    st'.H[p]? = some none ∧ stepOp call P nt pre ops o { st with H := st.H.set p (some k) } = some { st' with H := st'.H.set p (some k) } := by
  unfold stepOp at h ⊢
  split at h
  case h_2 => cases h
  rename_i r hr
  obtain ⟨hH, hput⟩ := put_fill h (p := p) k
  have key : r.H[p]? = some none ∧ coreP call P pre ops o st.env (st.H.set p (some k)) st.own = some { r with H := r.H.set p (some k) } := by
    unfold coreP at hr ⊢
    split at hr
    · exact coreS_fill hl hr hp k
    · rename_i b lt
      cases ha : allocOp o with
      | true =>
        rw [ha] at hr
        simp only [cond_true] at hr ⊢
        split at hr
        · split at hr
          · rename_i q hq
            obtain ⟨_, k', h1, rfl, h3⟩ := newAt_cases hr
            have hne : b + q ≠ p := by have := hpre b lt rfl; omega
            refine ⟨by show (st.H.set (b + q) _)[p]? = _; rw [List.getElem?_set_ne hne]; exact hp, ?_⟩
            rw [h3 (st.H.set p (some k)) st.own (by rw [List.getElem?_set_ne (Ne.symm hne)]; exact h1)]
            show some (Res.mk _ _ _ _) = some (Res.mk _ _ _ _)
            rw [List.set_comm _ _ (Ne.symm hne)]
          · cases hr
        · cases hr
      | false =>
        rw [ha] at hr
        simp only [cond_false] at hr ⊢
        cases hlt : (lateNo b lt ops o st.env) with
        | true => rw [hlt] at hr; cases hr
        | false => rw [hlt] at hr; exact coreS_fill hl hr hp k
  exact ⟨by rw [hH]; exact key.1, by simp only [key.2, hput]⟩
theorem stepW_lock (hl : CallLock call) {nt : Nat} {pre : Option (Nat × Option WS)} {o : Oper} {st st' : St} (h : stepW call P nt pre ops o st = some st') (hlo : call.lo ≤ st.H.length) (hpre : ∀ b lt, pre = some (b, lt) → call.lo ≤ b) : Lock call.lo st.H st'.H := by
  unfold stepW at h
  split at h
  · exact stepOp_lock hl h hlo hpre
  · have := (put_fill h (p := 0) ⟨0, []⟩).1
    rw [this]; exact Lock.refl _ _
  · cases h
theorem stepW_fill (hl : CallFill call) {nt : Nat} {pre : Option (Nat × Option WS)} {o : Oper} {st st' : St} (h : stepW call P nt pre ops o st = some st') {p : Nat} (hp : st.H[p]? = some none) (k : Blk) (hpre : ∀ b lt, pre = some (b, lt) → p < b) :
    st'.H[p]? = some none ∧ stepW call P nt pre ops o { st with H := st.H.set p (some k) } = some { st' with H := st'.H.set p (some k) } := by
  unfold stepW at h ⊢
  cases hw : wantedA ops st.env o with
  | none => rw [hw] at h; cases h
  | some b =>
    rw [hw] at h
    cases b with
    | true => exact stepOp_fill hl h hp k hpre
    | false =>
      obtain ⟨h1, h2⟩ := put_fill h (p := p) k
      exact ⟨by rw [h1]; exact hp, h2⟩
theorem eqL_eq {f : AV → AV → Bool} (hf : ∀ x y, f x y = true → x = y) : ∀ {xs ys : List AV}, eqL f xs ys = true → xs = ys
  | [], [], _ => rfl
  | x :: xs, y :: ys, h => by
    simp only [eqL, Bool.and_eq_true] at h
    rw [hf x y h.1, eqL_eq hf h.2]
  | [], _ :: _, h => by cases h
  | _ :: _, [], h => by cases h
theorem eqA_eq : ∀ (n : Nat) (x y : AV), eqA n x y = true → x = y
  | 0, x, y, h => by cases h
  | n + 1, x, y, h => by
    have ih : ∀ {a b : List AV}, eqL (eqA n) a b = true → a = b := fun h => eqL_eq (eqA_eq n) h
    have nb : ∀ {a b : Nat}, Nat.beq a b = true → a = b := fun h => Nat.eq_of_beq_eq_true h
    unfold eqA at h
    split at h
    · rfl
    · rw [eq_of_beq h]
    · rw [Bool.and_eq_true] at h; rw [of_decide_eq_true h.1, eq_of_beq h.2]
    · rw [eq_of_beq h]
    · rw [ih h]
    · rw [ih h]
    · rfl
    · simp only [Bool.and_eq_true] at h; rw [nb h.1.1, ih h.1.2, ih h.2]
    · simp only [Bool.and_eq_true] at h; rw [nb h.1.1.1, nb h.1.1.2, nb h.1.2, nb h.2]
    · simp only [Bool.and_eq_true] at h; rw [nb h.1.1.1, nb h.1.1.2, nb h.1.2, nb h.2]
    · rfl
    · simp only [Bool.and_eq_true] at h; rw [nb h.1, nb h.2]
    · simp only [Bool.and_eq_true] at h; rw [ih h.1, nb h.2]
    · rfl
    · simp only [Bool.and_eq_true] at h; rw [nb h.1, ih h.2]
    · simp only [Bool.and_eq_true] at h; rw [nb h.1.1, ih h.1.2, ih h.2]
    · rfl
    · simp only [Bool.and_eq_true] at h; rw [nb h.1, eqA_eq n _ _ h.2]
    · rfl
    · rw [nb h]
    · rw [nb h]
    · cases h
theorem sameB_eq {x y : Option (Option Blk)} (h : sameB x y = true) : x = y ∧ ∃ k, x = some (some k) := by
  unfold sameB at h
  split at h
  · rename_i a b
    rw [Bool.and_eq_true] at h
    obtain ⟨e, cs⟩ := a
    obtain ⟨e', cs'⟩ := b
    have h1 : e = e' := Nat.eq_of_beq_eq_true h.1
    have h2 : cs = cs' := eqL_eq (eqA_eq 100) h.2
    subst h1; subst h2
    exact ⟨rfl, _, rfl⟩
  · cases h
theorem watch_same {ops : List Oper} {o : Oper} {env : List (Nat × AV)} {H H' : List (Option Blk)} (h : watchOk ops o env H H' = true) {s id off : Nat} (hs : s ∈ wSlots ops o) (he : look env s = .ptr id off) : H'[id]? = H[id]? ∧ Live H id := by
  unfold watchOk at h
  rw [Bool.and_eq_true] at h
  have := List.all_eq_true.1 h.2 s hs
  simp only [he] at this
  obtain ⟨h1, k, h2⟩ := sameB_eq this
  exact ⟨h1.symm, k, h2⟩
theorem bOk_env {ops : List Oper} {o : Oper} {env env' : List (Nat × AV)} (h : bOk ops o env = true) (he : ∀ s, s ∈ bSlots ops o ∨ s ∈ opSlots o → look env' s = look env s) : bOk ops o env' = true := by
  refine List.all_eq_true.2 fun q hq => ?_
  have h0 := List.all_eq_true.1 h q hq
  split
  · rename_i t s hop
    simp only [hop] at h0
    rw [he s (.inr (by unfold opSlots; rw [hop]; simp [Op.operands])), he q (.inl hq)]
    exact h0
  · rfl
theorem bOk_same {ops : List Oper} {o : Oper} {env : List (Nat × AV)} (h : bOk ops o env = true) {t : TypeId} {s q id off : Nat} (ho : o.op = .load t (.tmp s)) (hq : q ∈ bSlots ops o) (he : look env s = .ptr id off) : ∃ off', look env q = .ptr id off' := by
  have h0 := List.all_eq_true.1 h q hq
  simp only [ho, he] at h0
  unfold sameId at h0
  simp only at h0
  split at h0
  · rename_i b o' hb
    obtain rfl := Nat.eq_of_beq_eq_true h0
    exact ⟨_, hb⟩
  · cases h0
theorem watch_b {ops : List Oper} {o : Oper} {env : List (Nat × AV)} {H H' : List (Option Blk)} (h : watchOk ops o env H H' = true) : bOk ops o env = true := by
  unfold watchOk at h
  rw [Bool.and_eq_true] at h
  exact h.1
/-- What a call has left is left in heaps that are alike there. -/
theorem watch_to {ops : List Oper} {o : Oper} {env env' : List (Nat × AV)} {H H' K K' : List (Option Blk)} (h : watchOk ops o env H H' = true) (he : ∀ s, s ∈ wSlots ops o ∨ s ∈ bSlots ops o ∨ s ∈ opSlots o → look env' s = look env s) (hk : wSlots ops o ≠ [] → ∀ id, Live H id → K[id]? = H[id]? ∧ K'[id]? = H'[id]?) : watchOk ops o env' K K' = true := by
  have hb := watch_b h
  unfold watchOk at h ⊢
  rw [Bool.and_eq_true] at h ⊢
  refine ⟨bOk_env hb fun s hs => he s (.inr hs), List.all_eq_true.2 fun s hs => ?_⟩
  have h0 := List.all_eq_true.1 h.2 s hs
  rw [he s (.inl hs)]
  split
  · rename_i id off hl
    simp only [hl] at h0
    obtain ⟨_, k, h2⟩ := sameB_eq h0
    obtain ⟨h3, h4⟩ := hk (fun e => by rw [e] at hs; cases hs) id ⟨k, h2⟩
    rw [h3, h4]; exact h0
  · rfl
theorem stepV_some {nt : Nat} {pre : Option (Nat × Option WS)} {o : Oper} {st st' : St} (h : stepV call P nt pre ops o st = some st') : stepW call P nt pre ops o st = some st' ∧ watchOk ops o st.env st.H st'.H = true := by
  unfold stepV at h
  split at h
  · rename_i s1 h1
    cases hw : watchOk ops o st.env st.H s1.H with
    | false => rw [hw] at h; cases h
    | true => rw [hw] at h; injection h with h; subst h; exact ⟨h1, hw⟩
  · cases h
theorem stepV_of {nt : Nat} {pre : Option (Nat × Option WS)} {o : Oper} {st st' : St} (h : stepW call P nt pre ops o st = some st') (hw : watchOk ops o st.env st.H st'.H = true) : stepV call P nt pre ops o st = some st' := by
  unfold stepV; rw [h]; simp only [hw, cond_true]
theorem runOps_lock {c : Oper → CallA} {lo : Nat} (hl : ∀ o, CallLock (c o)) (hlo : ∀ o, (c o).lo = lo) {nt : Nat} {pre : Option (Nat × Option WS)} : ∀ (l : List Oper) {st st' : St}, runOps c P nt pre ops l st = some st' → lo ≤ st.H.length → (∀ b lt, pre = some (b, lt) → lo ≤ b) → Lock lo st.H st'.H
  | [], st, st', h, _, _ => by simp only [runOps, Option.some.injEq] at h; subst h; exact Lock.refl _ _
  | o :: l, st, st', h, hle, hpre => by
    simp only [runOps] at h
    split at h
    · rename_i st1 h1
      have a := stepW_lock (hl o) (stepV_some h1).1 (by rw [hlo o]; exact hle) (fun b lt e => by rw [hlo o]; exact hpre b lt e)
      rw [hlo o] at a
      exact a.trans (runOps_lock hl hlo l h (Nat.le_trans hle a.1) hpre)
    · cases h
theorem runOps_fill {c : Oper → CallA} (hl : ∀ o, CallFill (c o)) {nt : Nat} {pre : Option (Nat × Option WS)} {p : Nat} (k : Blk) (hpre : ∀ b lt, pre = some (b, lt) → p < b) : ∀ (l : List Oper) {st st' : St}, runOps c P nt pre ops l st = some st' → st.H[p]? = some none →
    st'.H[p]? = some none ∧ runOps c P nt pre ops l { st with H := st.H.set p (some k) } = some { st' with H := st'.H.set p (some k) }
  | [], st, st', h, hp => by simp only [runOps, Option.some.injEq] at h ⊢; subst h; exact ⟨hp, rfl⟩
  | o :: l, st, st', h, hp => by
    simp only [runOps] at h ⊢
    split at h
    · rename_i st1 h1
      obtain ⟨h1, hw⟩ := stepV_some h1
      obtain ⟨a1, a2⟩ := stepW_fill (hl o) h1 hp k hpre
      have a3 := stepV_of a2 (watch_to hw (fun s _ => rfl) (fun _ id hl => by
        have hne : p ≠ id := by rintro rfl; obtain ⟨q, hq⟩ := hl; rw [hq] at hp; cases hp
        exact ⟨List.getElem?_set_ne hne, List.getElem?_set_ne hne⟩))
      rw [a3]
      exact runOps_fill hl k hpre l h a1
    · cases h

end
end Go.Proofs.YtomheegfobcijaaGreatDoor.Am

/- What calls leave as it was, whole: by the machine's own steps. -/
namespace Go.Proofs.YtomheegfobcijaaGreatDoor.Am
set_option linter.unusedVariables false
set_option linter.unusedSimpArgs false
open Go.RowKit

abbrev ExA := (Nat → List Nat) → Nat → Code → St → Option (Ex × St)
abbrev YlA := Nat → List AV → List (Option Blk) → List Loc → Option Out
def CodeLock (lo : Nat) (ex : ExA) : Prop := ∀ vars nt c st e st', ex vars nt c st = some (e, st') → lo ≤ st.H.length → Lock lo st.H st'.H
def CodeFill (ex : ExA) : Prop := ∀ vars nt c st e st' p k, ex vars nt c st = some (e, st') → st.H[p]? = some none → st'.H[p]? = some none ∧ ex vars nt c { st with H := st.H.set p (some k) } = some (e, { st' with H := st'.H.set p (some k) })
def YlLock (lo : Nat) (yl : YlA) : Prop := ∀ id args H own x H' own', yl id args H own = some (x, H', own') → lo ≤ H.length → Lock lo H H'
def YlFill (yl : YlA) : Prop := ∀ id args H own x H' own' p k, yl id args H own = some (x, H', own') → H[p]? = some none → H'[p]? = some none ∧ yl id args (H.set p (some k)) own = some (x, H'.set p (some k), own')

section
variable {P : Program} {call : CallA}

theorem rec_fill {H : List (Option Blk)} {id : Nat} {r : Nat × Nat × Nat × AV} (h : getRec H id = some r) {p : Nat} (hp : H[p]? = some none) (k : Blk) : id ≠ p ∧ getRec (H.set p (some k)) id = some r := by
  have hne : id ≠ p := by
    rintro rfl
    unfold getRec at h
    rw [hp] at h; cases h
  refine ⟨hne, ?_⟩
  unfold getRec at h ⊢
  rw [List.getElem?_set_ne (Ne.symm hne)]; exact h
theorem set_hole {H : List (Option Blk)} {p id : Nat} (hp : H[p]? = some none) (hne : id ≠ p) (x : Option Blk) : (H.set id x)[p]? = some none := by rw [List.getElem?_set_ne hne]; exact hp

theorem yield_lock {lo : Nat} {ex : ExA} (hx : CodeLock lo ex) : YlLock lo (yieldA lo ex) := by
  intro id args H own x H' own' h hlo
  unfold yieldA at h
  split at h
  case h_2 => cases h
  rename_i x0 vars nt env ps assign body hrec
  have hb : Nat.ble lo id = true := by
    cases hb : Nat.ble lo id with
    | true => rfl
    | false => rw [hb] at hrec; cases hrec
  split at h
  case isFalse => cases h
  split at h
  case h_2 => cases h
  rename_i s1 h1
  have a1 : Lock lo H s1.H := hx _ _ _ _ _ _ h1 hlo
  split at h
  case h_2 => cases h
  rename_i x1 y1 hrec1
  split at h
  case h_2 => cases h
  rename_i e s2 h2
  have a2 : Lock lo (s1.H.set id (recA 1 0 0 y1)) s2.H := hx _ _ _ _ _ _ h2 (by show lo ≤ (s1.H.set id _).length; rw [List.length_set]; exact Nat.le_trans hlo a1.1)
  have a3 := (a1.trans (Lock.set hb _)).trans a2
  split at h
  case h_2 => cases h
  split at h <;> first | (cases h; done) | (injection h with h; injection h with _ h; injection h with h _; subst h; exact a3.trans (Lock.set hb _))
theorem yield_fill {lo : Nat} {ex : ExA} (hx : CodeFill ex) : YlFill (yieldA lo ex) := by
  intro id args H own x H' own' p k h hp
  unfold yieldA at h ⊢
  cases hb : Nat.ble lo id with
  | false => rw [hb] at h; cases h
  | true =>
  rw [hb] at h
  simp only [cond_true] at h ⊢
  split at h
  case h_2 => cases h
  rename_i x0 vars nt env ps assign body hrec
  obtain ⟨hne, hr⟩ := rec_fill hrec hp k
  rw [hr]
  simp only
  split at h
  case isFalse => cases h
  rename_i hc
  rw [if_pos hc]
  split at h
  case h_2 => cases h
  rename_i s1 h1
  obtain ⟨a1, a2⟩ := hx _ _ _ _ _ _ p k h1 hp
  rw [a2]
  simp only
  split at h
  case h_2 => cases h
  rename_i x1 y1 hrec1
  rw [(rec_fill hrec1 a1 k).2]
  simp only
  split at h
  case h_2 => cases h
  rename_i e s2 h2
  obtain ⟨b1, b2⟩ := hx _ _ _ _ _ _ p k h2 (set_hole a1 hne _)
  simp only at b2
  rw [List.set_comm _ _ (Ne.symm hne), b2]
  simp only
  split at h
  case h_2 => cases h
  rename_i s' k' x' y' hrec2
  rw [(rec_fill hrec2 b1 k).2]
  simp only
  split at h <;> first | (cases h; done) | (injection h with h; injection h with h0 h; injection h with h h'; subst h; subst h'; subst h0; exact ⟨set_hole b1 hne _, by rw [List.set_comm _ _ (Ne.symm hne)]⟩)

theorem put_H {nt : Nat} {r : Res} {env : List (Nat × AV)} {dst : Option Nat} {st' : St} (h : r.put nt env dst = some st') : st'.H = r.H := (put_fill h (p := 0) ⟨0, []⟩).1

theorem deferZ_H {o : Oper} {st st' : St} (h : deferZ o st = some (some st')) : st'.H = st.H ∧ ∀ H2, deferZ o { st with H := H2 } = some (some { st' with H := H2 }) := by
  unfold deferZ at h ⊢
  split at h
  · rename_i f args at_ heq
    injection h with h
    split at h
    · rename_i g cap h1 h2 h3
      cases hp : pushD (look st.env DEF) (.fn g cap) with
      | none => rw [hp] at h; cases h
      | some y =>
        rw [hp] at h
        simp only [Option.map_some, Option.some.injEq] at h
        subst h
        refine ⟨rfl, fun H2 => ?_⟩
        simp only [h1, h2, h3, hp, Option.map_some]
    · cases h
  · injection h with h; cases h
  · cases h
theorem deferZ_none {o : Oper} {st : St} (h : deferZ o st = none) (H2 : List (Option Blk)) : deferZ o { st with H := H2 } = none := by
  unfold deferZ at h ⊢
  split at h
  · cases h
  · cases h
  · rfl
theorem convZ_some {o : Oper} {st : St} {r : Res} (h : convZ P o st = some r) : r.H = st.H ∧ r.own = st.own ∧ r.gives = false ∧ ∃ src d x e id off len s, o.op = .convert src d x ∧ evalO st.env x = some (.sl e id off len) ∧ bytesA P st.H src d e id off len = some s ∧ r.val = .str s := by
  unfold convZ at h
  split at h
  · rename_i src d x heq
    split at h
    · rename_i e id off len hx
      cases hb : bytesA P st.H src d e id off len with
      | none => rw [hb] at h; cases h
      | some s =>
        rw [hb] at h
        simp only [Option.map_some, Option.some.injEq] at h
        subst h
        exact ⟨rfl, rfl, rfl, src, d, x, e, id, off, len, s, heq, hx, hb, rfl⟩
    · cases h
  · cases h
theorem bytesA_some {H : List (Option Blk)} {src d e : TypeId} {id off len : Nat} {s : List UInt8} (h : bytesA P H src d e id off len = some s) :
    P.underlying src = some (.slice e) ∧ P.underlying d = some .string ∧ P.underlying e = some (.int .u8) ∧ sizeT P e = some 1 ∧ ∃ cs, readCells H id off len = some cs ∧ cs.mapM byteA = some s := by
  unfold bytesA at h
  split at h
  · rename_i e' h1 h2 h3
    split at h
    · rename_i hh
      split at h
      · rename_i cs hc
        exact ⟨by rw [h1, hh.1], h2, h3, hh.2, cs, hc, h⟩
      · cases h
    · cases h
  · cases h
theorem read_fill {H : List (Option Blk)} {id off n p : Nat} {cs : List AV} (h : readCells H id off n = some cs) (hp : H[p]? = some none) (k : Blk) : readCells (H.set p (some k)) id off n = some cs := by
  have hne : p ≠ id := by
    rintro rfl
    unfold readCells at h
    rw [hp] at h; cases h
  unfold readCells at h ⊢
  rw [List.getElem?_set_ne hne]
  exact h
theorem convZ_fill {o : Oper} {st : St} {r : Res} (h : convZ P o st = some r) {p : Nat} (hp : st.H[p]? = some none) (k : Blk) : convZ P o { st with H := st.H.set p (some k) } = some { r with H := st.H.set p (some k) } := by
  obtain ⟨h1, h2, h3, src, d, x, e, id, off, len, s, h4, h5, h6, h7⟩ := convZ_some h
  obtain ⟨a1, a2, a3, a4, cs, a5, a6⟩ := bytesA_some h6
  unfold convZ
  rw [h4]
  simp only [h5]
  have : bytesA P (st.H.set p (some k)) src d e id off len = some s := by
    unfold bytesA
    rw [a1, a2, a3]
    simp only [a4, and_self, if_true, read_fill a5 hp k, a6]
  rw [this]
  obtain ⟨rv, rH, ro, rg⟩ := r
  simp only at h1 h2 h3 h7
  subst h1 h2 h3 h7
  rfl
theorem core_conv {call : CallA} {ops : List Oper} {o : Oper} {st : St} {v : Res} {r : Res} (hr : convZ P o st = some r) : coreP call P none ops o st.env st.H st.own ≠ some v := by
  obtain ⟨_, _, _, src, d, x, e, id, off, len, s, h4, h5, h6, _⟩ := convZ_some hr
  obtain ⟨a1, a2, a3, _⟩ := bytesA_some h6
  obtain ⟨dst, op, ty, pos, after, guard⟩ := o
  simp only at h4
  subst h4
  have e1 : slElem P { dst := dst, op := .convert src d x, type := ty, pos := pos, after := after, guard := guard } = none := rfl
  intro h
  unfold coreP at h
  simp only [coreS, e1, isMapO, isMapW, isMapR, Bool.or_false, cond_false, core, a1, a2, h5, plainRes, convA] at h
  cases h
theorem stepOp_conv {call : CallA} {ops : List Oper} {nt : Nat} {o : Oper} {st st' : St} {r : Res} (hr : convZ P o st = some r) : stepOp call P nt none ops o st ≠ some st' := by
  intro h
  unfold stepOp at h
  split at h
  · rename_i v hv
    exact core_conv hr hv
  · cases h
theorem keepD_H (vars : List Nat) (st : St) : (keepD vars st).H = st.H := by
  unfold keepD
  split <;> rfl
theorem keepD_fill (vars : List Nat) (st : St) (H2 : List (Option Blk)) : keepD vars { st with H := H2 } = { keepD vars st with H := H2 } := by
  unfold keepD
  simp only
  split <;> rfl
theorem stepZ_lock {yl : YlA} (hl : CallLock call) (hy : YlLock call.lo yl) {nt : Nat} {ops : List Oper} {o : Oper} {st st' : St} (h : stepZ call yl P nt ops o st = some st') (hlo : call.lo ≤ st.H.length) : Lock call.lo st.H st'.H := by
  unfold stepZ at h
  split at h
  · split at h
    · split at h
      · rename_i hyo
        rw [put_H h]
        exact hy _ _ _ _ _ _ _ hyo hlo
      · cases h
    · split at h
      · rename_i hd
        subst h
        rw [(deferZ_H hd).1]; exact Lock.refl _ _
      · split at h
        · rename_i hc
          rw [put_H h, (convZ_some hc).1]; exact Lock.refl _ _
        · exact stepOp_lock hl h hlo (fun _ _ e => by cases e)
  · rw [put_H h]; exact Lock.refl _ _
  · cases h
theorem stepZ_fill {yl : YlA} (hl : CallFill call) (hy : YlFill yl) {nt : Nat} {ops : List Oper} {o : Oper} {st st' : St} (h : stepZ call yl P nt ops o st = some st') {p : Nat} (hp : st.H[p]? = some none) (k : Blk) :
    st'.H[p]? = some none ∧ stepZ call yl P nt ops o { st with H := st.H.set p (some k) } = some { st' with H := st'.H.set p (some k) } := by
  unfold stepZ at h ⊢
  cases hw : wantedA ops st.env o with
  | none => rw [hw] at h; cases h
  | some b =>
    rw [hw] at h
    cases b with
    | true =>
      simp only at h ⊢
      cases hyo : yieldOp st.env o with
      | none =>
        rw [hyo] at h
        simp only at h ⊢
        split at h
        · rename_i hd
          subst h
          obtain ⟨h1, h2⟩ := deferZ_H hd
          rw [h2]
          exact ⟨by rw [h1]; exact hp, by simp only [h1]⟩
        · rename_i hd
          rw [deferZ_none hd]
          split at h
          · rename_i r hc
            rw [convZ_fill hc hp k]
            have hH := (convZ_some hc).1
            have h := put_fill h (p := p) k
            rw [hH] at h
            exact ⟨by rw [h.1]; exact hp, by simp only; rw [h.2, h.1]⟩
          · obtain ⟨b1, b2⟩ := stepOp_fill hl h hp k (fun _ _ e => by cases e)
            refine ⟨b1, ?_⟩
            simp only
            split
            · rename_i r hc
              exact absurd b2 (stepOp_conv hc)
            · exact b2
      | some q =>
        obtain ⟨id, vs⟩ := q
        rw [hyo] at h
        simp only at h ⊢
        split at h
        · rename_i x H' own' hc
          obtain ⟨a1, a2⟩ := hy _ _ _ _ _ _ _ p k hc hp
          rw [a2]
          obtain ⟨h1, h2⟩ := put_fill h (p := p) k
          exact ⟨by rw [h1]; exact a1, h2⟩
        · cases h
    | false =>
      obtain ⟨h1, h2⟩ := put_fill h (p := p) k
      exact ⟨by rw [h1]; exact hp, h2⟩
theorem runOpsZ_lock {yl : YlA} (hl : CallLock call) (hy : YlLock call.lo yl) {nt : Nat} {ops : List Oper} : ∀ (l : List Oper) {st st' : St}, runOpsZ call yl P nt ops l st = some st' → call.lo ≤ st.H.length → Lock call.lo st.H st'.H
  | [], st, st', h, _ => by simp only [runOpsZ, Option.some.injEq] at h; subst h; exact Lock.refl _ _
  | o :: l, st, st', h, hlo => by
    simp only [runOpsZ] at h
    split at h
    · rename_i st1 h1
      have a := stepZ_lock hl hy h1 hlo
      exact a.trans (runOpsZ_lock hl hy l h (Nat.le_trans hlo a.1))
    · cases h
theorem runOpsZ_fill {yl : YlA} (hl : CallFill call) (hy : YlFill yl) {nt : Nat} {ops : List Oper} {p : Nat} (k : Blk) : ∀ (l : List Oper) {st st' : St}, runOpsZ call yl P nt ops l st = some st' → st.H[p]? = some none →
    st'.H[p]? = some none ∧ runOpsZ call yl P nt ops l { st with H := st.H.set p (some k) } = some { st' with H := st'.H.set p (some k) }
  | [], st, st', h, hp => by simp only [runOpsZ, Option.some.injEq] at h ⊢; subst h; exact ⟨hp, rfl⟩
  | o :: l, st, st', h, hp => by
    simp only [runOpsZ] at h ⊢
    split at h
    · rename_i st1 h1
      obtain ⟨a1, a2⟩ := stepZ_fill hl hy h1 hp k
      rw [a2]
      exact runOpsZ_fill hl hy k l h a1
    · cases h

theorem range_lock (hl : CallLock call) {vars : Nat → List Nat} {nt : Nat} {g : Operand} {ps : Array Tmp} {assign body : Code} {st st' : St} {e : Ex} (h : rangeA call P vars nt g ps assign body st = some (e, st')) (hlo : call.lo ≤ st.H.length) : Lock call.lo st.H st'.H := by
  unfold rangeA at h
  split at h
  case h_2 => cases h
  split at h
  case h_2 => cases h
  rename_i r hr
  have a := (Lock.app hlo _).trans (callA_lock hl hr (by rw [List.length_append]; omega))
  split at h
  case h_2 => cases h
  rename_i s k x y hrec
  cases hb : Nat.beq s 1 with
  | true => rw [hb] at h; cases h
  | false =>
    rw [hb] at h
    simp only [cond_false] at h
    split at h <;> (injection h with h; injection h with _ h; subst h; exact a.trans (Lock.set (Nat.ble_eq.mpr hlo) _))
theorem range_fill (hl : CallFill call) {vars : Nat → List Nat} {nt : Nat} {g : Operand} {ps : Array Tmp} {assign body : Code} {st st' : St} {e : Ex} (h : rangeA call P vars nt g ps assign body st = some (e, st')) {p : Nat} (hp : st.H[p]? = some none) (k : Blk) :
    st'.H[p]? = some none ∧ rangeA call P vars nt g ps assign body { st with H := st.H.set p (some k) } = some (e, { st' with H := st'.H.set p (some k) }) := by
  have hlt := hole_lt hp
  unfold rangeA at h ⊢
  simp only
  split at h
  case h_2 => cases h
  rename_i f cap hf
  split at h
  case h_2 => cases h
  rename_i r hr
  have hp1 : (st.H ++ [recA 0 0 0 (.rcd vars nt st.env ps.toList assign body)])[p]? = some none := by rw [List.getElem?_append_left hlt]; exact hp
  obtain ⟨a1, a2⟩ := callA_fill hl hr hp1 k
  rw [List.length_set, ← List.set_append_left _ _ hlt, a2]
  simp only
  split at h
  case h_2 => cases h
  rename_i s k' x y hrec
  obtain ⟨hne, hr2⟩ := rec_fill hrec a1 k
  rw [hr2]
  simp only
  cases hb : Nat.beq s 1 with
  | true => rw [hb] at h; cases h
  | false =>
    rw [hb] at h
    simp only [cond_false] at h ⊢
    split at h <;> (injection h with h; injection h with h0 h; subst h; subst h0; exact ⟨set_hole a1 hne _, by rw [List.set_comm _ _ (Ne.symm hne)]⟩)

theorem load_fill {H : List (Option Blk)} {p : Nat} (hp : H[p]? = some none) (k : Blk) {t : TypeId} {y z : AV} (hz : loadA P H t y = some z) : loadA P (H.set p (some k)) t y = some z := by
  unfold loadA at hz ⊢
  split at hz
  · rename_i n hn
    split at hz
    · rename_i id off
      have : readCells (H.set p (some k)) id off n = readCells H id off n ∨ readCells H id off n = none := by
        by_cases hid : id = p
        · subst hid; right; unfold readCells; rw [hp]
        · left; unfold readCells; rw [List.getElem?_set_ne (fun e => hid e.symm)]
      rcases this with e | e
      · rw [e]; exact hz
      · rw [e] at hz; cases hz
    · exact hz
    · cases hz
  · cases hz
theorem result_fill {st : St} {p : Nat} (hp : st.H[p]? = some none) (k : Blk) {r : ResultVar} {x : AV} (h : resultA P st r = some x) : resultA P { st with H := st.H.set p (some k) } r = some x := by
  cases r with
  | tmp t => exact h
  | cell a t =>
    simp only [resultA] at h ⊢
    split at h
    · exact load_fill hp k h
    · cases h
theorem results_fill {st : St} {p : Nat} (hp : st.H[p]? = some none) (k : Blk) {rs : List ResultVar} {x : AV} (h : resultsA P st rs = some x) : resultsA P { st with H := st.H.set p (some k) } rs = some x := by
  have key : ∀ (rs : List ResultVar) (xs : List AV), rs.mapM (resultA P st) = some xs → rs.mapM (resultA P { st with H := st.H.set p (some k) }) = some xs := by
    intro rs
    induction rs with
    | nil => intro xs h; simpa using h
    | cons r rs ih =>
      intro xs h
      rw [List.mapM_cons] at h ⊢
      cases hr : resultA P st r with
      | none => simp [hr] at h
      | some y =>
        cases hrs : rs.mapM (resultA P st) with
        | none => simp [hr, hrs] at h
        | some ys => simp [hr, hrs] at h; subst h; simp [result_fill hp k hr, ih ys hrs]
  unfold resultsA at h ⊢
  split at h
  · exact result_fill hp k h
  · rename_i hne
    cases hm : rs.mapM (resultA P st) with
    | none => rw [hm] at h; cases h
    | some xs =>
      rw [hm] at h
      rw [key _ _ hm]; exact h

theorem bodyD_lock {K : Know} {lo : Nat} {ex : ExA} (hx : CodeLock lo ex) {f : FuncId} {args : List AV} {H H' : List (Option Blk)} {own own' : List Loc} (h : bodyD ex P K f args H own = some (H', own')) (hlo : lo ≤ H.length) : Lock lo H H' := by
  unfold bodyD at h
  split at h
  case h_2 => cases h
  split at h
  case h_2 => cases h
  split at h
  case isFalse => cases h
  split at h
  · rename_i st1 h1
    have a : Lock lo H st1.H := hx _ _ _ _ _ _ h1 hlo
    cases hr : resultsA P st1 _ with
    | none => rw [hr] at h; cases h
    | some x => rw [hr] at h; simp only [Option.map_some, Option.some.injEq, Prod.mk.injEq] at h; obtain ⟨rfl, _⟩ := h; exact a
  · rename_i st1 h1
    have a : Lock lo H st1.H := hx _ _ _ _ _ _ h1 hlo
    cases hr : resultsA P st1 _ with
    | none => rw [hr] at h; cases h
    | some x => rw [hr] at h; simp only [Option.map_some, Option.some.injEq, Prod.mk.injEq] at h; obtain ⟨rfl, _⟩ := h; exact a
  · cases h
theorem bodyD_fill {K : Know} {ex : ExA} (hx : CodeFill ex) {f : FuncId} {args : List AV} {H H' : List (Option Blk)} {own own' : List Loc} (h : bodyD ex P K f args H own = some (H', own')) {p : Nat} (hp : H[p]? = some none) (k : Blk) :
    H'[p]? = some none ∧ bodyD ex P K f args (H.set p (some k)) own = some (H'.set p (some k), own') := by
  unfold bodyD at h ⊢
  split at h
  case h_2 => cases h
  split at h
  case h_2 => cases h
  split at h
  case isFalse => cases h
  rename_i hle
  rw [if_pos hle]
  split at h
  · rename_i st1 h1
    obtain ⟨a1, a2⟩ := hx _ _ _ _ _ _ p k h1 hp
    simp only at a2
    rw [a2]
    simp only
    cases hr : resultsA P st1 _ with
    | none => rw [hr] at h; cases h
    | some x =>
      rw [hr] at h; simp only [Option.map_some, Option.some.injEq, Prod.mk.injEq] at h; obtain ⟨rfl, rfl⟩ := h
      exact ⟨a1, by rw [results_fill a1 k hr]; rfl⟩
  · rename_i st1 h1
    obtain ⟨a1, a2⟩ := hx _ _ _ _ _ _ p k h1 hp
    simp only at a2
    rw [a2]
    simp only
    cases hr : resultsA P st1 _ with
    | none => rw [hr] at h; cases h
    | some x =>
      rw [hr] at h; simp only [Option.map_some, Option.some.injEq, Prod.mk.injEq] at h; obtain ⟨rfl, rfl⟩ := h
      exact ⟨a1, by rw [results_fill a1 k hr]; rfl⟩
  · cases h
theorem leave_lock {K : Know} {lo : Nat} {ex : ExA} (hx : CodeLock lo ex) : ∀ (l : List (Nat × AV)) {H H' : List (Option Blk)} {own own' : List Loc} (h : leaveA ex P K l H own = some (H', own')) (hlo : lo ≤ H.length), Lock lo H H' := by
  intro l
  induction l with
  | nil =>
    intro H H' own own' h hlo
    simp only [leaveA, Option.some.injEq, Prod.mk.injEq] at h
    obtain ⟨rfl, _⟩ := h; exact Lock.refl _ _
  | cons y l ih =>
    intro H H' own own' h hlo
    unfold leaveA at h
    split at h
    · rename_i e; cases e
    · rename_i i g cap r e
      injection e with e1 e2
      subst e1 e2
      cases hq : quietF P g with
      | true => rw [hq] at h; exact ih h hlo
      | false =>
        rw [hq] at h
        simp only [cond_false] at h
        split at h
        · rename_i H1 own1 hb
          have a := bodyD_lock hx hb hlo
          exact a.trans (ih h (Nat.le_trans hlo a.1))
        · cases h
    · cases h
theorem leave_fill {K : Know} {ex : ExA} (hx : CodeFill ex) {p : Nat} (k : Blk) : ∀ (l : List (Nat × AV)) {H H' : List (Option Blk)} {own own' : List Loc} (h : leaveA ex P K l H own = some (H', own')) (hp : H[p]? = some none),
    H'[p]? = some none ∧ leaveA ex P K l (H.set p (some k)) own = some (H'.set p (some k), own') := by
  intro l
  induction l with
  | nil =>
    intro H H' own own' h hp
    simp only [leaveA, Option.some.injEq, Prod.mk.injEq] at h
    obtain ⟨rfl, rfl⟩ := h; exact ⟨hp, rfl⟩
  | cons y l ih =>
    intro H H' own own' h hp
    unfold leaveA at h
    split at h
    · rename_i e; cases e
    · rename_i i g cap r e
      injection e with e1 e2
      subst e1 e2
      simp only [leaveA]
      cases hq : quietF P g with
      | true => rw [hq] at h; exact ih h hp
      | false =>
        rw [hq] at h
        simp only [cond_false] at h ⊢
        split at h
        · rename_i H1 own1 hb
          obtain ⟨a1, a2⟩ := bodyD_fill hx hb hp k
          rw [a2]
          exact ih h a1
        · cases h
    · cases h
theorem end_lock {K : Know} {lo : Nat} {ex : ExA} (hx : CodeLock lo ex) {rs : List ResultVar} {st : St} {out : Out} (h : endA ex P K rs st = some out) (hlo : lo ≤ st.H.length) : Lock lo st.H out.2.1 := by
  unfold endA at h
  split at h
  · cases hr : resultsA P st rs with
    | none => rw [hr] at h; cases h
    | some x => rw [hr] at h; simp only [Option.map_some, Option.some.injEq] at h; subst h; exact Lock.refl _ _
  · split at h
    · rename_i H1 own1 hl
      have a := leave_lock hx _ hl hlo
      cases hr : resultsA P ⟨st.env, H1, own1⟩ rs with
      | none => rw [hr] at h; cases h
      | some x => rw [hr] at h; simp only [Option.map_some, Option.some.injEq] at h; subst h; exact a
    · cases h
  · cases h
theorem end_fill {K : Know} {ex : ExA} (hx : CodeFill ex) {rs : List ResultVar} {st : St} {out : Out} (h : endA ex P K rs st = some out) {p : Nat} (hp : st.H[p]? = some none) (k : Blk) :
    out.2.1[p]? = some none ∧ endA ex P K rs { st with H := st.H.set p (some k) } = some (out.1, out.2.1.set p (some k), out.2.2) := by
  unfold endA at h ⊢
  split at h
  · rename_i e
    simp only [e]
    cases hr : resultsA P st rs with
    | none => rw [hr] at h; cases h
    | some x =>
      rw [hr] at h; simp only [Option.map_some, Option.some.injEq] at h; subst h
      exact ⟨hp, by rw [results_fill hp k hr]; rfl⟩
  · rename_i e
    simp only [e]
    split at h
    · rename_i H1 own1 hl
      obtain ⟨a1, a2⟩ := leave_fill hx k _ hl hp
      rw [a2]
      simp only
      cases hr : resultsA P ⟨st.env, H1, own1⟩ rs with
      | none => rw [hr] at h; cases h
      | some x =>
        rw [hr] at h; simp only [Option.map_some, Option.some.injEq] at h; subst h
        have := results_fill (st := ⟨st.env, H1, own1⟩) a1 k hr
        simp only at this
        exact ⟨a1, by rw [this]; rfl⟩
    · cases h
  · cases h
theorem body_lock {K : Know} {lo : Nat} {ex : ExA} (hx : CodeLock lo ex) {f : FuncId} {args : List AV} {H : List (Option Blk)} {own : List Loc} {out : Out} (h : bodyA ex P K f args H own = some out) (hlo : lo ≤ H.length) : Lock lo H out.2.1 := by
  unfold bodyA at h
  split at h
  case h_2 => cases h
  split at h
  case h_2 => cases h
  split at h
  case isFalse => cases h
  split at h
  · rename_i st1 h1
    have a : Lock lo H st1.H := hx _ _ _ _ _ _ h1 hlo
    exact a.trans (end_lock hx h (Nat.le_trans hlo a.1))
  · rename_i st1 h1
    have a : Lock lo H st1.H := hx _ _ _ _ _ _ h1 hlo
    exact a.trans (end_lock hx h (Nat.le_trans hlo a.1))
  · cases h
theorem body_fill {K : Know} {ex : ExA} (hx : CodeFill ex) {f : FuncId} {args : List AV} {H : List (Option Blk)} {own : List Loc} {out : Out} (h : bodyA ex P K f args H own = some out) {p : Nat} (hp : H[p]? = some none) (k : Blk) :
    out.2.1[p]? = some none ∧ bodyA ex P K f args (H.set p (some k)) own = some (out.1, out.2.1.set p (some k), out.2.2) := by
  unfold bodyA at h ⊢
  split at h
  case h_2 => cases h
  split at h
  case h_2 => cases h
  split at h
  case isFalse => cases h
  rename_i hle
  rw [if_pos hle]
  split at h
  · rename_i st1 h1
    obtain ⟨a1, a2⟩ := hx _ _ _ _ _ _ p k h1 hp
    simp only at a2
    rw [a2]
    exact end_fill hx h a1 k
  · rename_i st1 h1
    obtain ⟨a1, a2⟩ := hx _ _ _ _ _ _ p k h1 hp
    simp only at a2
    rw [a2]
    exact end_fill hx h a1 k
  · cases h

/-! ### lists that are written no more -/
theorem fzOne_cases (H : List (Option Blk)) (x : AV) : (fzOne P H x).2 = H ∨ ∃ e id off len q, x = .sl e id off len ∧ (fzOne P H x).2 = H.set id (some q) := by
  unfold fzOne
  split
  · split
    · rename_i k sz h1 h2
      cases (!(Nat.beq k.e LOOP) && Nat.ble (_ + _ * sz) k.cs.length && Nat.blt 0 sz && Nat.blt 0 k.cs.length) with
      | false => exact .inl rfl
      | true =>
        simp only [cond_true]
        split
        · exact .inr ⟨_, _, _, _, _, rfl, rfl⟩
        · exact .inl rfl
    · exact .inl rfl
  · exact .inl rfl
theorem fzSafe1_set {lo : Nat} {H : List (Option Blk)} {y : AV} (h : fzSafe1 lo H y = true) (id : Nat) (q : Blk) (hid : id < H.length) : fzSafe1 lo (H.set id (some q)) y = true := by
  unfold fzSafe1 at h ⊢
  split at h
  · rename_i e i off len
    by_cases hi : id = i
    · subst hi
      rw [List.getElem?_set_self hid]
      simp only
      split at h
      · exact h
      · cases h
    · rw [List.getElem?_set_ne hi]; exact h
  · rfl
theorem fzOne_safe {lo : Nat} {H : List (Option Blk)} {x y : AV} (hx : fzSafe1 lo H x = true) (h : fzSafe1 lo H y = true) : fzSafe1 lo (fzOne P H x).2 y = true := by
  rcases fzOne_cases (P := P) H x with e | ⟨e', id, off, len, q, rfl, e⟩
  · rw [e]; exact h
  · rw [e]
    refine fzSafe1_set h id q ?_
    unfold fzSafe1 at hx
    simp only at hx
    split at hx
    · rename_i hq; exact (List.getElem?_eq_some_iff.1 hq).1
    · cases hx
theorem fzOne_lock {lo : Nat} {H : List (Option Blk)} {x : AV} (hx : fzSafe1 lo H x = true) : Lock lo H (fzOne P H x).2 := by
  rcases fzOne_cases (P := P) H x with e | ⟨e', id, off, len, q, rfl, e⟩
  · rw [e]; exact Lock.refl _ _
  · rw [e]
    refine Lock.set ?_ _
    unfold fzSafe1 at hx
    simp only at hx
    split at hx
    · exact hx
    · cases hx
theorem fzOne_fill {lo : Nat} {H : List (Option Blk)} {x : AV} (hx : fzSafe1 lo H x = true) {p : Nat} (hp : H[p]? = some none) (k : Blk) :
    (fzOne P H x).2[p]? = some none ∧ fzOne P (H.set p (some k)) x = ((fzOne P H x).1, (fzOne P H x).2.set p (some k)) := by
  cases x
  case sl e id off len =>
    unfold fzSafe1 at hx
    simp only at hx
    split at hx
    · rename_i q hq
      have hne := hole_ne hp hq
      unfold fzOne
      simp only [List.getElem?_set_ne (Ne.symm hne), hq]
      split
      · rename_i q' sz h1 h2
        injection h1 with h1; injection h1 with h1; subst h1
        cases (!(Nat.beq q.e LOOP) && Nat.ble (off + len * sz) q.cs.length && Nat.blt 0 sz && Nat.blt 0 q.cs.length) with
        | false => exact ⟨hp, rfl⟩
        | true =>
          simp only [cond_true]
          split
          · exact ⟨set_hole hp hne _, by rw [List.set_comm _ _ (Ne.symm hne)]⟩
          · exact ⟨hp, rfl⟩
      · exact ⟨hp, rfl⟩
    · cases hx
  all_goals exact ⟨hp, rfl⟩
theorem fzAll_local {lo : Nat} : ∀ (xs : List AV) (H : List (Option Blk)), xs.all (fzSafe1 lo H) = true → Lock lo H (fzAll P xs H).2 ∧ ∀ p k, H[p]? = some none → (fzAll P xs H).2[p]? = some none ∧ fzAll P xs (H.set p (some k)) = ((fzAll P xs H).1, (fzAll P xs H).2.set p (some k))
  | [], H, _ => ⟨Lock.refl _ _, fun p k hp => ⟨hp, rfl⟩⟩
  | x :: xs, H, h => by
    simp only [List.all_cons, Bool.and_eq_true] at h
    have h2 : xs.all (fzSafe1 lo (fzOne P H x).2) = true := List.all_eq_true.2 fun y hy => fzOne_safe h.1 (List.all_eq_true.1 h.2 y hy)
    obtain ⟨a1, a2⟩ := fzAll_local xs (fzOne P H x).2 h2
    refine ⟨(fzOne_lock h.1).trans a1, fun p k hp => ?_⟩
    obtain ⟨b1, b2⟩ := fzOne_fill (P := P) h.1 hp k
    obtain ⟨c1, c2⟩ := a2 p k b1
    refine ⟨c1, ?_⟩
    simp only [fzAll, b2, c2]
theorem fzV_local {lo : Nat} {x : AV} {H : List (Option Blk)} (h : fzSafe lo H x = true) : Lock lo H (fzV P x H).2 ∧ ∀ p k, H[p]? = some none → (fzV P x H).2[p]? = some none ∧ fzV P x (H.set p (some k)) = ((fzV P x H).1, (fzV P x H).2.set p (some k)) := by
  unfold fzSafe at h
  split at h
  · rename_i xs
    obtain ⟨a1, a2⟩ := fzAll_local (P := P) xs H h
    refine ⟨a1, fun p k hp => ?_⟩
    obtain ⟨b1, b2⟩ := a2 p k hp
    exact ⟨b1, by simp only [fzV, b2]⟩
  · rename_i hne
    have e : ∀ H', fzV P x H' = fzOne P H' x := by
      intro H'
      unfold fzV
      split
      · rename_i xs; exact absurd rfl (hne xs)
      · rfl
    rw [e]
    refine ⟨fzOne_lock h, fun p k hp => ?_⟩
    rw [e]
    exact fzOne_fill h hp k
theorem fzSafe_fill {lo : Nat} {x : AV} {H : List (Option Blk)} (h : fzSafe lo H x = true) {p : Nat} (hp : H[p]? = some none) (k : Blk) : fzSafe lo (H.set p (some k)) x = true := by
  unfold fzSafe at h ⊢
  split at h
  · exact List.all_eq_true.2 fun y hy => fzSafe1_set (List.all_eq_true.1 h y hy) p k (hole_lt hp)
  · exact fzSafe1_set h p k (hole_lt hp)
theorem fzOut_lock {lo : Nat} {b : Bool} {H : List (Option Blk)} {o : Option Out} {out : Out} (h : fzOut lo P b o = some out) (ho : ∀ q, o = some q → Lock lo H q.2.1) : Lock lo H out.2.1 := by
  unfold fzOut at h
  cases b with
  | false => exact ho _ h
  | true =>
    simp only [cond_true] at h
    split at h
    · rename_i x H1 own
      cases hs : fzSafe lo H1 x with
      | false => rw [hs] at h; cases h
      | true =>
        rw [hs] at h
        injection h with h; subst h
        exact (ho _ rfl).trans (fzV_local hs).1
    · cases h
theorem fzOut_fill {lo : Nat} {b : Bool} {p : Nat} {k : Blk} {o o' : Option Out} {out : Out} (h : fzOut lo P b o = some out) (ho : ∀ q : Out, o = some q → q.2.1[p]? = some none ∧ o' = some (q.1, q.2.1.set p (some k), q.2.2)) : out.2.1[p]? = some none ∧ fzOut lo P b o' = some (out.1, out.2.1.set p (some k), out.2.2) := by
  unfold fzOut at h ⊢
  cases b with
  | false => exact ho _ h
  | true =>
    simp only [cond_true] at h ⊢
    split at h
    · rename_i x H1 own
      cases hs : fzSafe lo H1 x with
      | false => rw [hs] at h; cases h
      | true =>
        rw [hs] at h
        injection h with h; subst h
        obtain ⟨a1, a2⟩ := ho _ rfl
        obtain ⟨b1, b2⟩ := (fzV_local (P := P) hs).2 p k a1
        refine ⟨b1, ?_⟩
        rw [a2]
        simp only [fzSafe_fill hs a1 k, cond_true, b2]
    · cases h

/-! ### all of it -/
/-- What is asked of the calls that go by a law of their own. -/
def ShortLocal (K : Know) : Prop := ∀ f g, K.short f = some g → ∀ lo, CallLock ⟨fun f' args H own => if f' = f then g lo args H own else none, lo⟩ ∧ CallFill ⟨fun f' args H own => if f' = f then g lo args H own else none, lo⟩

/-- A call that neither asks for the caller's ends nor takes them; those that it hands back are of new blocks. -/
def CallOwn (call : CallA) : Prop := ∀ f args H own x H' own', call f args H own = some (x, H', own') → ∃ n : List Loc, (∀ l ∈ n, newC H.length l = true) ∧ own' = own ++ n ∧ ∀ own2, call f args H own2 = some (x, H', own2 ++ n)
theorem noOwn_some {n : Nat} {own : List Loc} {o : Option Out} {x : AV} {H : List (Option Blk)} {own2 : List Loc} (h : noOwn n own o = some (x, H, own2)) : ∃ own', o = some (x, H, own') ∧ own2 = own ++ own'.filter (newC n) := by
  unfold noOwn at h
  split at h
  · injection h with h; injection h with h1 h; injection h with h2 h3
    subst h1; subst h2
    exact ⟨_, rfl, h3.symm⟩
  · cases h
theorem full_lock {n : Nat} {K : Know} (h : ∀ m, CallLock (cN P (K.up m) n)) : FullLock (dN P K n) := by
  intro f args H own x H' own' hc
  change cond (Nat.ble K.lo H.length) (noOwn H.length own (callK P n (K.up H.length) f args H [])) none = some (x, H', own') at hc
  cases hb : Nat.ble K.lo H.length with
  | false => rw [hb] at hc; cases hc
  | true =>
    rw [hb] at hc
    obtain ⟨own2, hc, _⟩ := noOwn_some hc
    have hmax : (K.up H.length).lo = H.length := Nat.max_eq_right (Nat.ble_eq.mp hb)
    have := h H.length f args H [] x H' own2 hc (by show (K.up H.length).lo ≤ _; rw [hmax]; exact Nat.le_refl _)
    change Lock (K.up H.length).lo H H' at this
    rw [hmax] at this
    exact this
theorem dn_lock {n : Nat} {K : Know} (h : FullLock (dN P K n)) : CallLock (dN P K n) := fun f args H own x H' own' hc hlo => (h f args H own x H' own' hc).le hlo
theorem dn_fill {n : Nat} {K : Know} (h : ∀ m, CallFill (cN P (K.up m) n)) : CallFill (dN P K n) := by
  intro f args H own x H' own' p k hc hp
  change cond (Nat.ble K.lo H.length) (noOwn H.length own (callK P n (K.up H.length) f args H [])) none = some (x, H', own') at hc
  show _ ∧ cond (Nat.ble K.lo (H.set p (some k)).length) (noOwn (H.set p (some k)).length own (callK P n (K.up (H.set p (some k)).length) f args (H.set p (some k)) [])) none = _
  rw [List.length_set]
  cases hb : Nat.ble K.lo H.length with
  | false => rw [hb] at hc; cases hc
  | true =>
    rw [hb] at hc
    obtain ⟨own2, hc2, rfl⟩ := noOwn_some (show noOwn H.length own _ = _ from hc)
    obtain ⟨a1, a2⟩ := h H.length f args H [] x H' own2 p k hc2 hp
    refine ⟨a1, ?_⟩
    have a2 : callK P n (K.up H.length) f args (H.set p (some k)) [] = some (x, H'.set p (some k), own2) := a2
    rw [a2]; rfl

theorem chk_lock {call : CallA} (h : CallLock call) : CallLock (chk call) := by
  intro f args H own x H' own' hc hlo
  change cond (Nat.ble call.lo H.length) (call f args H own) none = some (x, H', own') at hc
  cases hb : Nat.ble call.lo H.length with
  | false => rw [hb] at hc; cases hc
  | true => rw [hb] at hc; exact h f args H own x H' own' hc hlo
theorem chk_fill {call : CallA} (h : CallFill call) : CallFill (chk call) := by
  intro f args H own x H' own' p k hc hp
  change cond (Nat.ble call.lo H.length) (call f args H own) none = some (x, H', own') at hc
  show _ ∧ cond (Nat.ble call.lo (H.set p (some k)).length) (call f args (H.set p (some k)) own) none = _
  rw [List.length_set]
  cases hb : Nat.ble call.lo H.length with
  | false => rw [hb] at hc; cases hc
  | true => rw [hb] at hc; exact h f args H own x H' own' p k hc hp
theorem sel_lo {n : Nat} {K : Know} {ops : List Oper} (o : Oper) : (selC (cN P K n) (dN P K n) ops o).lo = K.lo := by
  unfold selC
  cases mixed ops with
  | false => rfl
  | true => cases mixAt ops o <;> rfl
theorem sel_lock {n : Nat} {K : Know} {ops : List Oper} (h1 : CallLock (cN P K n)) (h2 : CallLock (dN P K n)) (o : Oper) : CallLock (selC (cN P K n) (dN P K n) ops o) := by
  unfold selC
  cases mixed ops with
  | false => exact h1
  | true => cases mixAt ops o with
    | true => exact h2
    | false => exact chk_lock h1
theorem sel_fill {n : Nat} {K : Know} {ops : List Oper} (h1 : CallFill (cN P K n)) (h2 : CallFill (dN P K n)) (o : Oper) : CallFill (selC (cN P K n) (dN P K n) ops o) := by
  unfold selC
  cases mixed ops with
  | false => exact h1
  | true => cases mixAt ops o with
    | true => exact h2
    | false => exact chk_fill h1
theorem pre_fill {H : List (Option Blk)} {all : List Oper} {p : Nat} (hp : H[p]? = some none) (k : Blk) : ∀ (r : List Oper) (env e : List (Nat × AV)), preEnv P H all r env = some e → preEnv P (H.set p (some k)) all r env = some e
  | [], env, e, h => h
  | o :: r, env, e, h => by
    unfold preEnv at h ⊢
    split at h
    · split at h
      · split at h
        · split at h
          · rename_i x hx
            rw [load_fill hp k hx]
            exact pre_fill hp k r _ _ h
          · cases h
        · split at h
          · exact pre_fill hp k r _ _ h
          · cases h
        · exact pre_fill hp k r _ _ h
      · exact pre_fill hp k r _ _ h
      · exact pre_fill hp k r _ _ h
      · split at h
        · exact pre_fill hp k r _ _ h
        · exact pre_fill hp k r _ _ h
    · exact pre_fill hp k r _ _ h
theorem late_fill {H : List (Option Blk)} {ops : List Oper} {env : List (Nat × AV)} {p : Nat} (hp : H[p]? = some none) (k : Blk) {lt : Option WS} (h : lateW P H ops env = some lt) : lateW P (H.set p (some k)) ops env = some lt := by
  unfold lateW at h ⊢
  cases hla : late ops with
  | false => rw [hla] at h; exact h
  | true =>
    rw [hla] at h
    simp only [cond_true] at h ⊢
    cases hta : tainted ops with
    | false => rw [hta] at h; exact h
    | true =>
      rw [hta] at h
      simp only [cond_true] at h ⊢
      cases hq : preEnv P H ops ops env with
      | none => rw [hq] at h; cases h
      | some e => rw [pre_fill hp k _ _ _ hq]; rw [hq] at h; exact h
theorem scope_lock {lo : Nat} {self : Code → St → Option (Ex × St)} (hs : ∀ c st e st', self c st = some (e, st') → lo ≤ st.H.length → Lock lo st.H st'.H) (c : Code) : ∀ (k : Nat) (d : Code) (st : St) (e : Ex) (st' : St), scopeL self c k d st = some (e, st') → lo ≤ st.H.length → Lock lo st.H st'.H
  | 0, _, _, _, _, h, _ => by cases h
  | k + 1, d, st, e, st', h, hlo => by
    unfold scopeL at h
    split at h
    · rename_i l st2 h2
      have q := hs _ _ _ _ h2 hlo
      split at h
      · exact q.trans (scope_lock hs c k _ _ _ _ h (Nat.le_trans hlo q.1))
      · injection h with h; injection h with _ h; subst h; exact q
    · exact hs _ _ _ _ h hlo
theorem scope_fill {self : Code → St → Option (Ex × St)} (hs : ∀ c st e st' p k, self c st = some (e, st') → st.H[p]? = some none → st'.H[p]? = some none ∧ self c { st with H := st.H.set p (some k) } = some (e, { st' with H := st'.H.set p (some k) })) (c : Code) : ∀ (n : Nat) (d : Code) (st : St) (e : Ex) (st' : St) (p : Nat) (k : Blk), scopeL self c n d st = some (e, st') → st.H[p]? = some none → st'.H[p]? = some none ∧ scopeL self c n d { st with H := st.H.set p (some k) } = some (e, { st' with H := st'.H.set p (some k) })
  | 0, _, _, _, _, _, _, h, _ => by cases h
  | n + 1, d, st, e, st', p, k, h, hp => by
    unfold scopeL at h ⊢
    split at h
    · rename_i l st2 h2
      obtain ⟨a1, a2⟩ := hs _ _ _ _ p k h2 hp
      rw [a2]
      simp only
      split at h
      · rename_i rest hr
        exact scope_fill hs c n _ _ _ _ p k h a1
      · injection h with h; injection h with h0 h; subst h; subst h0; exact ⟨a1, rfl⟩
    · rename_i r hne
      obtain ⟨a1, a2⟩ := hs _ _ _ _ p k h hp
      rw [a2]
      refine ⟨a1, ?_⟩
      cases e with
      | normal => rfl
      | exit i => rfl
      | goto l => exact absurd h (hne l st')
      | ret => rfl

/-! ### loops over maps -/
abbrev SelfLock (lo : Nat) (self : Code → St → Option (Ex × St)) : Prop := ∀ c st e st', self c st = some (e, st') → lo ≤ st.H.length → Lock lo st.H st'.H
abbrev SelfFill (self : Code → St → Option (Ex × St)) : Prop := ∀ c st e st' p k, self c st = some (e, st') → st.H[p]? = some none → st'.H[p]? = some none ∧ self c { st with H := st.H.set p (some k) } = some (e, { st' with H := st'.H.set p (some k) })
theorem headZ_lock {yl : YlA} (hl : CallLock call) (hy : YlLock call.lo yl) {nt : Nat} {isN : Bool} {it id : Nat} {ops : List Oper} {x : AV} {st st' : St} (h : headZ call yl P nt isN it id ops x st = some st') (hlo : call.lo ≤ st.H.length) : Lock call.lo st.H st'.H := by
  unfold headZ at h
  split at h
  case h_2 => cases h
  rename_i i o r he
  cases hb : Nat.beq i id with
  | false => rw [hb] at h; cases h
  | true =>
  rw [hb, cond_true] at h
  have key : ∀ (b : Bool) (d : Nat), cond b (match Res.put ⟨x, st.H, st.own, false⟩ nt st.env (some d) with
      | some s1 => runOpsZ call yl P nt (o :: r) r s1
      | none => none) none = some st' → Lock call.lo st.H st'.H := by
    intro b d h
    cases b with
    | false => cases h
    | true =>
      rw [cond_true] at h
      split at h
      · rename_i s1 h1
        have e := put_H h1
        have := runOpsZ_lock hl hy _ h (by rw [e]; exact hlo)
        rw [e] at this; exact this
      · cases h
  split at h
  · exact key _ _ h
  · exact key _ _ h
  · cases h
theorem headZ_fill {yl : YlA} (hl : CallFill call) (hy : YlFill yl) {nt : Nat} {isN : Bool} {it id : Nat} {ops : List Oper} {x : AV} {st st' : St} {p : Nat} (k : Blk) (h : headZ call yl P nt isN it id ops x st = some st') (hp : st.H[p]? = some none) :
    st'.H[p]? = some none ∧ headZ call yl P nt isN it id ops x { st with H := st.H.set p (some k) } = some { st' with H := st'.H.set p (some k) } := by
  unfold headZ at h ⊢
  split at h
  case h_2 => cases h
  rename_i i o r he
  simp only [he]
  cases hb : Nat.beq i id with
  | false => rw [hb] at h; cases h
  | true =>
  rw [hb, cond_true] at h
  simp only [cond_true]
  have key : ∀ (b : Bool) (d : Nat), cond b (match Res.put ⟨x, st.H, st.own, false⟩ nt st.env (some d) with
      | some s1 => runOpsZ call yl P nt (o :: r) r s1
      | none => none) none = some st' → st'.H[p]? = some none ∧ cond b (match Res.put ⟨x, st.H.set p (some k), st.own, false⟩ nt st.env (some d) with
      | some s1 => runOpsZ call yl P nt (o :: r) r s1
      | none => none) none = some { st' with H := st'.H.set p (some k) } := by
    intro b d h
    cases b with
    | false => cases h
    | true =>
      rw [cond_true] at h ⊢
      split at h
      · rename_i s1 h1
        obtain ⟨e1, e2⟩ := put_fill h1 (p := p) k
        rw [e2]
        exact runOpsZ_fill hl hy k _ h (by rw [e1]; exact hp)
      · cases h
  split at h
  · exact key _ _ h
  · exact key _ _ h
  · cases h
theorem roundM_lock {yl : YlA} (hl : CallLock call) (hy : YlLock call.lo yl) {vars : Nat → List Nat} {nt : Nat} {self : Code → St → Option (Ex × St)} (hs : SelfLock call.lo self) {b : MBody} {it id : Nat} {q : AV × AV} {st st' : St} (h : roundM call yl P vars nt self b it id q st = some st') (hlo : call.lo ≤ st.H.length) : Lock call.lo st.H st'.H := by
  unfold roundM at h
  split at h
  case h_2 => cases h
  rename_i s1 h1
  have q1 := headZ_lock hl hy h1 hlo
  split at h
  case h_2 => cases h
  split at h
  case h_2 => cases h
  rename_i s2 h2
  have q2 := headZ_lock hl hy h2 (by rw [keepD_H]; exact Nat.le_trans hlo q1.1)
  rw [keepD_H] at q2
  have q3 : ∀ e s3, self b.code (keepD (vars b.id2) s2) = some (e, s3) → Lock call.lo st.H s3.H := by
    intro e s3 h3
    have := hs _ _ _ _ h3 (by rw [keepD_H]; exact Nat.le_trans hlo (q1.trans q2).1)
    rw [keepD_H] at this
    exact (q1.trans q2).trans this
  split at h
  · rename_i s3 h3; injection h with h; subst h; exact q3 _ _ h3
  · rename_i i s3 h3
    cases hb : Nat.beq i b.nb with
    | false => rw [hb] at h; cases h
    | true => rw [hb] at h; injection h with h; subst h; exact q3 _ _ h3
  · cases h
theorem roundM_fill {yl : YlA} (hl : CallFill call) (hy : YlFill yl) {vars : Nat → List Nat} {nt : Nat} {self : Code → St → Option (Ex × St)} (hs : SelfFill self) {b : MBody} {it id : Nat} {q : AV × AV} {st st' : St} {p : Nat} (k : Blk) (h : roundM call yl P vars nt self b it id q st = some st') (hp : st.H[p]? = some none) :
    st'.H[p]? = some none ∧ roundM call yl P vars nt self b it id q { st with H := st.H.set p (some k) } = some { st' with H := st'.H.set p (some k) } := by
  unfold roundM at h ⊢
  split at h
  case h_2 => cases h
  rename_i s1 h1
  obtain ⟨a1, a2⟩ := headZ_fill hl hy k h1 hp
  rw [a2]
  simp only [keepD_fill]
  split at h
  case h_2 => cases h
  split at h
  case h_2 => cases h
  rename_i s2 h2
  obtain ⟨b1, b2⟩ := headZ_fill hl hy k h2 (by rw [keepD_H]; exact a1)
  rw [keepD_H] at b2
  rw [b2]
  simp only [keepD_fill]
  split at h
  · rename_i s3 h3
    injection h with h; subst h
    obtain ⟨c1, c2⟩ := hs _ _ _ _ p k h3 (by rw [keepD_H]; exact b1)
    rw [keepD_H] at c2
    rw [c2]
    exact ⟨c1, rfl⟩
  · rename_i i s3 h3
    cases hb : Nat.beq i b.nb with
    | false => rw [hb] at h; cases h
    | true =>
      rw [hb] at h; injection h with h; subst h
      obtain ⟨c1, c2⟩ := hs _ _ _ _ p k h3 (by rw [keepD_H]; exact b1)
      rw [keepD_H] at c2
      rw [c2]
      simp only [hb, cond_true]
      exact ⟨c1, trivial⟩
  · cases h
theorem roundsM_lock {lo : Nat} {round : AV × AV → St → Option St} (hr : ∀ q st st', round q st = some st' → lo ≤ st.H.length → Lock lo st.H st'.H) : ∀ (l : List (AV × AV)) {st st' : St}, roundsM round l st = some st' → lo ≤ st.H.length → Lock lo st.H st'.H
  | [], st, st', h, hlo => by injection h with h; subst h; exact Lock.refl _ _
  | [q], st, st', h, hlo => hr q st st' h hlo
  | _ :: _ :: _, _, _, h, _ => by cases h
theorem roundsM_fill {round : AV × AV → St → Option St} {p : Nat} (k : Blk) (hr : ∀ q st st', round q st = some st' → st.H[p]? = some none → st'.H[p]? = some none ∧ round q { st with H := st.H.set p (some k) } = some { st' with H := st'.H.set p (some k) }) : ∀ (l : List (AV × AV)) {st st' : St}, roundsM round l st = some st' → st.H[p]? = some none → st'.H[p]? = some none ∧ roundsM round l { st with H := st.H.set p (some k) } = some { st' with H := st'.H.set p (some k) }
  | [], st, st', h, hp => by injection h with h; subst h; exact ⟨hp, rfl⟩
  | [q], st, st', h, hp => hr q st st' h hp
  | _ :: _ :: _, _, _, h, _ => by cases h
theorem entriesM_some {lo : Nat} {H : List (Option Blk)} {x : AV} {mo : Option (Nat × List (AV × AV))} {l : List (AV × AV)} (h : entriesM lo H x = some (mo, l)) : (x = .nilm ∧ mo = none ∧ l = []) ∨ ∃ m, x = .map m ∧ mo = some (m, l) ∧ getMap H m = some l ∧ Nat.ble lo m = true := by
  unfold entriesM at h
  split at h
  · injection h with h; injection h with h1 h2; exact .inl ⟨rfl, h1.symm, h2.symm⟩
  · rename_i m
    split at h
    · rename_i l' hl
      cases hb : Nat.ble lo m with
      | false => rw [hb] at h; cases h
      | true =>
        rw [hb] at h
        injection h with h; injection h with h1 h2
        subst h2
        exact .inr ⟨m, rfl, h1.symm, hl, hb⟩
    · cases h
  · cases h
theorem enterM_some {vars : List Nat} {nt it : Nat} {mo : Option (Nat × List (AV × AV))} {st st' : St} (h : enterM vars nt it mo st = some st') : st'.H = fzM mo st.H ++ [some anyBlk] := by
  unfold enterM at h
  cases hp : Res.put ⟨.ptr st.H.length 0, fzM mo st.H ++ [some anyBlk], st.own, false⟩ nt st.env (some it) with
  | none => rw [hp] at h; cases h
  | some s =>
    rw [hp] at h
    injection h with h; subst h
    rw [keepD_H]
    exact put_H hp
theorem fzM_length (mo : Option (Nat × List (AV × AV))) (H : List (Option Blk)) : (fzM mo H).length = H.length := by
  cases mo with
  | none => rfl
  | some q => obtain ⟨m, l⟩ := q; exact List.length_set
theorem getMap_hole {H : List (Option Blk)} {m p : Nat} {l : List (AV × AV)} (h : getMap H m = some l) (hp : H[p]? = some none) (k : Blk) : m ≠ p ∧ getMap (H.set p (some k)) m = some l := by
  have h1 := getMap_some h
  have hne : m ≠ p := by rintro rfl; rw [h1] at hp; cases hp
  refine ⟨hne, ?_⟩
  unfold getMap at h ⊢
  rw [List.getElem?_set_ne (fun e => hne e.symm)]
  exact h
theorem set_hole_back {α : Type} {l : List α} {m p : Nat} (hne : m ≠ p) (a b : α) : (l.set p b).set m a = (l.set m a).set p b := List.set_comm _ _ (fun e => hne e.symm)
theorem enterM_fill {vars : List Nat} {nt it : Nat} {mo : Option (Nat × List (AV × AV))} {st st' : St} (h : enterM vars nt it mo st = some st') {p : Nat} (hp : st.H[p]? = some none) (k : Blk) (hne : ∀ m l, mo = some (m, l) → m ≠ p) :
    st'.H[p]? = some none ∧ enterM vars nt it mo { st with H := st.H.set p (some k) } = some { st' with H := st'.H.set p (some k) } := by
  have hlt := hole_lt hp
  have hH := enterM_some h
  have e0 : (fzM mo st.H)[p]? = some none ∧ fzM mo (st.H.set p (some k)) = (fzM mo st.H).set p (some k) := by
    cases mo with
    | none => exact ⟨hp, rfl⟩
    | some q =>
      obtain ⟨m, l⟩ := q
      exact ⟨by show (st.H.set m _)[p]? = _; rw [List.getElem?_set_ne (hne m l rfl)]; exact hp, set_hole_back (hne m l rfl) _ _⟩
  constructor
  · rw [hH, List.getElem?_append_left (by rw [fzM_length]; exact hlt)]
    exact e0.1
  · unfold enterM at h ⊢
    cases hpu : Res.put ⟨.ptr st.H.length 0, fzM mo st.H ++ [some anyBlk], st.own, false⟩ nt st.env (some it) with
    | none => rw [hpu] at h; cases h
    | some s =>
      rw [hpu] at h
      injection h with h; subst h
      have := (put_fill hpu (p := p) k).2
      simp only [List.length_set]
      rw [e0.2, ← List.set_append_left _ _ (by rw [fzM_length]; exact hlt), this]
      simp only [Option.map_some, keepD_fill, keepD_H]
theorem mloopA_lock {yl : YlA} (hl : CallLock call) (hy : YlLock call.lo yl) {vars : Nat → List Nat} {nt : Nat} {self : Code → St → Option (Ex × St)} (hs : SelfLock call.lo self) {L : MLoop} {st st' : St} (h : mloopA call yl P vars nt self L st = some st') (hlo : call.lo ≤ st.H.length) : Lock call.lo st.H st'.H := by
  unfold mloopA at h
  split at h
  case h_2 => cases h
  rename_i s0 h0
  have h0 : runOpsZ call yl P nt L.o0.toList L.pre st = some s0 := by
    cases hm : isMapT P L.t with
    | false => rw [hm] at h0; cases h0
    | true => rw [hm] at h0; exact h0
  have q0 := runOpsZ_lock hl hy _ h0 hlo
  split at h
  case h_2 => cases h
  rename_i mo l hmo
  split at h
  case h_2 => cases h
  rename_i s1 h1
  split at h
  case h_2 => cases h
  rename_i s2 h2
  split at h
  case h_2 => cases h
  rename_i s3 h3
  split at h
  case h_2 => cases h
  injection h with h
  have e1 := enterM_some h1
  have hlen : s1.H.length = s0.H.length + 1 := by
    rw [e1, List.length_append, fzM_length]; rfl
  have hlo0 := Nat.le_trans hlo q0.1
  have q2 := roundsM_lock (fun q st st' h hlo => roundM_lock hl hy hs h hlo) l h2 (by omega)
  have q3 := headZ_lock hl hy h3 (Nat.le_trans (by omega) q2.1)
  have q23 := q2.trans q3
  refine q0.trans ?_
  subst h
  have hx : ∃ x, evalO s0.env L.x = some x ∧ entriesM call.lo s0.H x = some (mo, l) := by
    cases hx : evalO s0.env L.x with
    | none => rw [hx] at hmo; cases hmo
    | some x => rw [hx] at hmo; exact ⟨x, rfl, hmo⟩
  obtain ⟨x, _, hx⟩ := hx
  rcases entriesM_some hx with ⟨rfl, rfl, rfl⟩ | ⟨m, rfl, rfl, hg, hmlo⟩
  · show Lock call.lo s0.H (keepD _ s3).H
    rw [keepD_H]
    refine Lock.trans ?_ q23
    rw [e1]
    exact Lock.app hlo0 _
  · show Lock call.lo s0.H ((keepD _ s3).H.set m (some (mapBlk l)))
    rw [keepD_H]
    refine ⟨by rw [List.length_set]; have := q23.1; omega, fun i hi => ?_⟩
    by_cases him : i = m
    · subst him
      have hi3 : i < s3.H.length := by have := q23.1; omega
      rw [List.getElem?_set_self hi3, getMap_some hg]
    · rw [List.getElem?_set_ne (fun e => him e.symm), q23.2 i hi, e1, List.getElem?_append_left (by rw [fzM_length]; omega)]
      exact List.getElem?_set_ne (fun e => him e.symm)
theorem mloopA_fill {yl : YlA} (hl : CallFill call) (hy : YlFill yl) {vars : Nat → List Nat} {nt : Nat} {self : Code → St → Option (Ex × St)} (hs : SelfFill self) {L : MLoop} {st st' : St} {p : Nat} (k : Blk) (h : mloopA call yl P vars nt self L st = some st') (hp : st.H[p]? = some none) :
    st'.H[p]? = some none ∧ mloopA call yl P vars nt self L { st with H := st.H.set p (some k) } = some { st' with H := st'.H.set p (some k) } := by
  unfold mloopA at h ⊢
  split at h
  case h_2 => cases h
  rename_i s0 h0
  cases hm : isMapT P L.t with
  | false => rw [hm] at h0; cases h0
  | true =>
  rw [hm] at h0
  simp only [cond_true] at h0 ⊢
  obtain ⟨a1, a2⟩ := runOpsZ_fill hl hy k _ h0 hp
  rw [a2]
  simp only
  split at h
  case h_2 => cases h
  rename_i mo l hmo
  have hx : ∃ x, evalO s0.env L.x = some x ∧ entriesM call.lo s0.H x = some (mo, l) := by
    cases hx : evalO s0.env L.x with
    | none => rw [hx] at hmo; cases hmo
    | some x => rw [hx] at hmo; exact ⟨x, rfl, hmo⟩
  obtain ⟨x, hx1, hx⟩ := hx
  have hx' : entriesM call.lo (s0.H.set p (some k)) x = some (mo, l) ∧ ∀ m l', mo = some (m, l') → m ≠ p := by
    rcases entriesM_some hx with ⟨rfl, rfl, rfl⟩ | ⟨m, rfl, rfl, hg, hmlo⟩
    · exact ⟨rfl, fun m l' e => by cases e⟩
    · obtain ⟨hne, hg'⟩ := getMap_hole hg a1 k
      refine ⟨by simp only [entriesM, hg', hmlo, cond_true], fun m' l' e => ?_⟩
      injection e with e; injection e with e _
      rw [← e]; exact hne
  rw [hx1]
  simp only [Option.bind_some, hx'.1]
  split at h
  case h_2 => cases h
  rename_i s1 h1
  obtain ⟨b1, b2⟩ := enterM_fill h1 a1 k hx'.2
  rw [b2]
  simp only [List.length_set]
  split at h
  case h_2 => cases h
  rename_i s2 h2
  obtain ⟨c1, c2⟩ := roundsM_fill k (fun q st st' h hp => roundM_fill hl hy hs k h hp) l h2 b1
  rw [c2]
  simp only
  split at h
  case h_2 => cases h
  rename_i s3 h3
  obtain ⟨d1, d2⟩ := headZ_fill hl hy k h3 c1
  rw [d2]
  simp only [keepD_fill]
  split at h
  case h_2 => cases h
  injection h with h; subst h
  cases mo with
  | none =>
    refine ⟨by show (keepD _ s3).H[p]? = _; rw [keepD_H]; exact d1, ?_⟩
    show some _ = some _
    simp only [leaveM, keepD_H]
  | some q =>
    obtain ⟨m, l'⟩ := q
    have hne := hx'.2 m l' rfl
    refine ⟨by show ((keepD _ s3).H.set m _)[p]? = _; rw [keepD_H, List.getElem?_set_ne hne]; exact d1, ?_⟩
    show some _ = some _
    simp only [leaveM, keepD_H, set_hole_back hne]

theorem local_all : ∀ (n : Nat) (K : Know), ShortLocal K → (CallLock (cN P K n) ∧ CallFill (cN P K n)) ∧ CodeLock K.lo (execK P n K) ∧ CodeFill (execK P n K) := by
  intro n
  induction n with
  | zero =>
    intro K hS
    exact ⟨⟨fun f args H own x H' own' h => (by cases h), fun f args H own x H' own' p k h => (by cases h)⟩, fun vars nt c st e st' h => (by cases h), fun vars nt c st e st' p k h => (by cases h)⟩
  | succ n ih =>
    intro K hS
    obtain ⟨⟨i1, i2⟩, i3, i4⟩ := ih K hS
    have hup : ∀ m, ShortLocal (K.up m) := fun m => hS
    refine ⟨⟨?_, ?_⟩, ?_, ?_⟩
    · intro f args H own x H' own' h hlo
      change callK P (n + 1) K f args H own = some (x, H', own') at h
      rw [call_succ] at h
      split at h
      · rename_i g hg
        exact (hS f g hg K.lo).1 f args H own x H' own' (by show (if f = f then _ else _) = _; rw [if_pos rfl]; exact h) hlo
      · cases hb : K.bad f with
        | true => rw [hb] at h; cases h
        | false =>
          rw [hb] at h
          exact fzOut_lock (out := (x, H', own')) h fun q hq => body_lock i3 hq hlo
    · intro f args H own x H' own' p k h hp
      change callK P (n + 1) K f args H own = some (x, H', own') at h
      show _ ∧ callK P (n + 1) K f args (H.set p (some k)) own = _
      rw [call_succ] at h ⊢
      split at h
      · rename_i g hg
        obtain ⟨a1, a2⟩ := (hS f g hg K.lo).2 f args H own x H' own' p k (by show (if f = f then _ else _) = _; rw [if_pos rfl]; exact h) hp
        refine ⟨a1, ?_⟩
        change (if f = f then _ else _) = _ at a2
        rw [if_pos rfl] at a2
        exact a2
      · cases hb : K.bad f with
        | true => rw [hb] at h; cases h
        | false =>
          rw [hb] at h
          exact fzOut_fill (out := (x, H', own')) h fun q hq => body_fill i4 hq hp k
    · intro vars nt c st e st' h hlo
      rw [exec_succ] at h
      have hyl := yield_lock i3
      cases c with
      | skip => simp only [execWith, Option.some.injEq, Prod.mk.injEq] at h; obtain ⟨_, rfl⟩ := h; exact Lock.refl _ _
      | region id ops draw =>
        simp only [execWith] at h
        split at h
        · rename_i st1 h1
          injection h with h; injection h with _ h; subst h
          rw [keepD_H]
          cases draw with
          | false => exact runOpsZ_lock i1 hyl _ h1 hlo
          | true =>
            simp only [cond_true] at h1
            split at h1
            case h_2 => cases h1
            have hlen : st.H.length ≤ (st.H ++ List.replicate (allocs ops.toList) none).length := by rw [List.length_append]; omega
            refine (Lock.app hlo (List.replicate (allocs ops.toList) none)).trans ?_
            exact runOps_lock (lo := K.lo) (sel_lock i1 (dn_lock (full_lock fun m => (ih (K.up m) (hup m)).1.1))) sel_lo _ h1 (Nat.le_trans hlo hlen) (fun b lt e => by injection e with e; injection e with e _; show K.lo ≤ b; omega)
        · cases h
      | seq a b =>
        simp only [execWith] at h
        split at h
        · rename_i L hL
          split at h
          case h_2 => cases h
          rename_i st1 h1
          have q := mloopA_lock i1 hyl (fun c st e st' h hlo => i3 _ _ _ _ _ _ h hlo) h1 hlo
          split at h
          · exact q.trans (i3 _ _ _ _ _ _ h (Nat.le_trans hlo q.1))
          · injection h with h; injection h with _ h; subst h; exact q
        split at h
        · rename_i st1 h1
          have q := i3 _ _ _ _ _ _ h1 hlo
          exact q.trans (i3 _ _ _ _ _ _ h (Nat.le_trans hlo q.1))
        · exact i3 _ _ _ _ _ _ h hlo
      | cond c a b =>
        simp only [execWith] at h
        split at h
        · rename_i t ht
          cases t with
          | true => exact i3 _ _ _ _ _ _ h hlo
          | false => exact i3 _ _ _ _ _ _ h hlo
        · cases h
      | block id c =>
        simp only [execWith] at h
        split at h
        · rename_i i st1 h1
          have q := i3 _ _ _ _ _ _ h1 hlo
          cases hi : Nat.beq i id with
          | true => rw [hi] at h; injection h with h; injection h with _ h; subst h; exact q
          | false => rw [hi] at h; injection h with h; injection h with _ h; subst h; exact q
        · exact i3 _ _ _ _ _ _ h hlo
      | loop c =>
        simp only [execWith] at h
        split at h
        · rename_i st1 h1
          have q := i3 _ _ _ _ _ _ h1 hlo
          exact q.trans (i3 _ _ _ _ _ _ h (Nat.le_trans hlo q.1))
        · exact i3 _ _ _ _ _ _ h hlo
      | rangeFunc g ps assign body =>
        simp only [execWith] at h
        cases hc : (noRange assign && noRange body && Nat.ble K.lo st.H.length) with
        | false => rw [hc] at h; cases h
        | true => rw [hc] at h; exact range_lock i1 h hlo
      | exit id => simp only [execWith, Option.some.injEq, Prod.mk.injEq] at h; obtain ⟨_, rfl⟩ := h; exact Lock.refl _ _
      | label l => simp only [execWith, Option.some.injEq, Prod.mk.injEq] at h; obtain ⟨_, rfl⟩ := h; exact Lock.refl _ _
      | ret => simp only [execWith, Option.some.injEq, Prod.mk.injEq] at h; obtain ⟨_, rfl⟩ := h; exact Lock.refl _ _
      | scope c => simp only [execWith] at h; exact scope_lock (fun c st e st' h hlo => i3 _ _ c st e st' h hlo) c 100000 c st e st' h hlo
      | goto l => simp only [execWith, Option.some.injEq, Prod.mk.injEq] at h; obtain ⟨_, rfl⟩ := h; exact Lock.refl _ _
      | refuse s => cases h
    · intro vars nt c st e st' p k h hp
      rw [exec_succ] at h ⊢
      have hyl := yield_fill (lo := K.lo) i4
      have hlt := hole_lt hp
      cases c with
      | skip => simp only [execWith, Option.some.injEq, Prod.mk.injEq] at h ⊢; obtain ⟨h1, rfl⟩ := h; exact ⟨hp, h1, rfl⟩
      | region id ops draw =>
        simp only [execWith] at h ⊢
        split at h
        · rename_i st1 h1
          injection h with h; injection h with h0 h; subst h; subst h0
          cases draw with
          | false =>
            obtain ⟨a1, a2⟩ := runOpsZ_fill i2 hyl k _ h1 hp
            simp only [cond_false]
            rw [a2, keepD_H]
            exact ⟨a1, by simp only [keepD_fill]⟩
          | true =>
            simp only [cond_true] at h1 ⊢
            split at h1
            case h_2 => cases h1
            rename_i lt hltw
            rw [late_fill hp k hltw]
            simp only
            have hp1 : (st.H ++ List.replicate (allocs ops.toList) none)[p]? = some none := by rw [List.getElem?_append_left hlt]; exact hp
            have hpre : ∀ b l, some (st.H.length, lt) = some (b, l) → p < b := fun b l e => by injection e with e; injection e with e _; omega
            have hset : (st.H.set p (some k)) ++ List.replicate (allocs ops.toList) none = (st.H ++ List.replicate (allocs ops.toList) none).set p (some k) := (List.set_append_left _ _ hlt).symm
            obtain ⟨a1, a2⟩ := runOps_fill (sel_fill i2 (dn_fill fun m => (ih (K.up m) (hup m)).1.2)) k hpre _ h1 hp1
            simp only [List.length_set, hset]
            rw [a2, keepD_H]
            exact ⟨a1, by simp only [keepD_fill]⟩
        · cases h
      | seq a b =>
        simp only [execWith] at h ⊢
        split at h
        · rename_i L hL
          split at h
          case h_2 => cases h
          rename_i st1 h1
          obtain ⟨a1, a2⟩ := mloopA_fill i2 hyl (fun c st e st' p k h hp => i4 _ _ _ _ _ _ p k h hp) k h1 hp
          rw [a2]
          simp only
          split at h
          · exact i4 _ _ _ _ _ _ p k h a1
          · injection h with h; injection h with h0 h; subst h; subst h0; exact ⟨a1, rfl⟩
        split at h
        · rename_i st1 h1
          obtain ⟨a1, a2⟩ := i4 _ _ _ _ _ _ p k h1 hp
          rw [a2]
          exact i4 _ _ _ _ _ _ p k h a1
        · rename_i r hne
          obtain ⟨a1, a2⟩ := i4 _ _ _ _ _ _ p k h hp
          rw [a2]
          refine ⟨a1, ?_⟩
          cases e with
          | normal => exact absurd h (hne st')
          | exit i => rfl
          | goto l => rfl
          | ret => rfl
      | cond c a b =>
        simp only [execWith] at h ⊢
        split at h
        · rename_i t ht
          cases t with
          | true => exact i4 _ _ _ _ _ _ p k h hp
          | false => exact i4 _ _ _ _ _ _ p k h hp
        · cases h
      | block id c =>
        simp only [execWith] at h ⊢
        split at h
        · rename_i i st1 h1
          obtain ⟨a1, a2⟩ := i4 _ _ _ _ _ _ p k h1 hp
          rw [a2]
          simp only
          cases hi : Nat.beq i id with
          | true => rw [hi] at h; injection h with h; injection h with h0 h; subst h; subst h0; exact ⟨a1, rfl⟩
          | false => rw [hi] at h; injection h with h; injection h with h0 h; subst h; subst h0; exact ⟨a1, rfl⟩
        · rename_i r hne
          obtain ⟨a1, a2⟩ := i4 _ _ _ _ _ _ p k h hp
          rw [a2]
          refine ⟨a1, ?_⟩
          cases e with
          | normal => rfl
          | exit i => exact absurd h (hne i st')
          | goto l => rfl
          | ret => rfl
      | loop c =>
        simp only [execWith] at h ⊢
        split at h
        · rename_i st1 h1
          obtain ⟨a1, a2⟩ := i4 _ _ _ _ _ _ p k h1 hp
          rw [a2]
          exact i4 _ _ _ _ _ _ p k h a1
        · rename_i r hne
          obtain ⟨a1, a2⟩ := i4 _ _ _ _ _ _ p k h hp
          rw [a2]
          refine ⟨a1, ?_⟩
          cases e with
          | normal => exact absurd h (hne st')
          | exit i => rfl
          | goto l => rfl
          | ret => rfl
      | rangeFunc g ps assign body =>
        simp only [execWith] at h ⊢
        rw [List.length_set]
        cases hc : (noRange assign && noRange body && Nat.ble K.lo st.H.length) with
        | false => rw [hc] at h; cases h
        | true => rw [hc] at h; exact range_fill i2 h hp k
      | exit id => simp only [execWith, Option.some.injEq, Prod.mk.injEq] at h ⊢; obtain ⟨h1, rfl⟩ := h; exact ⟨hp, h1, rfl⟩
      | label l => simp only [execWith, Option.some.injEq, Prod.mk.injEq] at h ⊢; obtain ⟨h1, rfl⟩ := h; exact ⟨hp, h1, rfl⟩
      | ret => simp only [execWith, Option.some.injEq, Prod.mk.injEq] at h ⊢; obtain ⟨h1, rfl⟩ := h; exact ⟨hp, h1, rfl⟩
      | scope c => simp only [execWith] at h ⊢; exact scope_fill (fun c st e st' p k h hp => i4 _ _ c st e st' p k h hp) c 100000 c st e st' p k h hp
      | goto l => simp only [execWith, Option.some.injEq, Prod.mk.injEq] at h ⊢; obtain ⟨h1, rfl⟩ := h; exact ⟨hp, h1, rfl⟩
      | refuse s => cases h

end
end Go.Proofs.YtomheegfobcijaaGreatDoor.Am
