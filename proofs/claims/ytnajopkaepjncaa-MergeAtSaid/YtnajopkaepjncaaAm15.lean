/- The abstract machine is right, eleventh part: stores. -/
import Derived.Test.YtnajopkaepjncaaAm14
namespace Go.Proofs.Ytnajopkaepjncaa.Am
set_option linter.unusedVariables false
set_option linter.unusedSimpArgs false
open Go.RowKit

section
variable {P : Program} {w : World}

/-- A block of the machine's is written: all else stays. -/
theorem store_ext {G : Gh} (g : GOk G w) {id b : Nat} (hf : G.f id = some b) (cs : Array Value) : Ext G w G (w.setRow b cs) where
  os := rfl
  tape := rfl
  output := rfl
  size := by simp
  prot := by
    intro k o q hq
    have hk : k ≠ b := by
      rintro rfl
      unfold pmOf at hq
      rw [(g.fin id k hf).2.1] at hq
      simp at hq
    unfold pmOf at hq ⊢
    split at hq
    · rename_i h; rw [if_pos h, World.cell?_of_block (setRow_other w b k cs hk)]; exact hq
    · cases hq
  f := fun _ _ h => h
  bs := fun _ => Nat.le_refl _
  foreign := by
    intro k hk hn
    have hkb : k ≠ b := by rintro rfl; exact hn (.inl ⟨id, hf⟩)
    exact ⟨setRow_other w b k cs hkb, rfl, hn⟩
theorem store_gok {G : Gh} (g : GOk G w) (b : Nat) (cs : Array Value) : GOk G (w.setRow b cs) where
  fin := fun id k h => by simpa using g.fin id k h
  new := fun k hk => g.new k (by simpa using hk)

theorem own_setRow {G : Gh} (g : GOk G w) {id b : Nat} (hf : G.f id = some b) (es : Array Value) (l : Loc) (y : AV) (u : Value) (r : OwnAt P G w l y u) : OwnAt P G (w.setRow b es) l y u := by
  intro e xs hx
  obtain ⟨sz, cells, h1, h2, h3, h4⟩ := r e xs hx
  refine ⟨sz, cells, h1, h2, h3.kept ⟨rfl, rfl, rfl, by simp, fun i _ hi => setRow_other w b i es (fun e => hi (by rw [e]))⟩ (row := some b) ?_, h4⟩
  cases hu : u.ownBlock with
  | none => exact .inl rfl
  | some q =>
    refine .inr ?_
    intro e
    injection e with e
    subst e
    have := (h4 q hu).1
    rw [(g.fin id q hf).2.2] at this
    cases this
theorem splice_cells {M : Mem} {cs : List AV} {ds : Array Value} (hsz : cs.length ≤ ds.size) (h : ∀ j, j < cs.length → Rep P M (cs.getD j .undef) (ds.getD j undef)) (h1 : ∀ j, j < cs.length → (ds.getD j undef).oneCell' = true)
    {xs : List AV} {us : Array Value} (hx : CellsRep P M xs us) (off : Nat) (hl : off + xs.length ≤ cs.length) :
    ∀ j, j < (splice cs off xs).length → Rep P M ((splice cs off xs).getD j .undef) (((ds.toList.take off ++ us.toList ++ ds.toList.drop (off + us.toList.length)).toArray).getD j undef) ∧
      (((ds.toList.take off ++ us.toList ++ ds.toList.drop (off + us.toList.length)).toArray).getD j undef).oneCell' = true := by
  intro j hj
  rw [length_splice _ _ _ hl] at hj
  have hus : us.toList.length = xs.length := by rw [Array.length_toList, hx.size]
  have key : ((ds.toList.take off ++ us.toList ++ ds.toList.drop (off + us.toList.length)).toArray).getD j undef = if off ≤ j ∧ j < off + xs.length then us.getD (j - off) undef else ds.getD j undef := by
    have ht : (ds.toList.take off).length = off := by simp; omega
    simp only [Array.getD_eq_getD_getElem?, List.getElem?_toArray]
    by_cases h2 : j < off
    · rw [List.append_assoc, List.getElem?_append_left (by omega), List.getElem?_take, if_pos h2, if_neg (by omega), Array.getElem?_toList]
    · by_cases h3 : j < off + xs.length
      · rw [List.append_assoc, List.getElem?_append_right (by omega), List.getElem?_append_left (by omega), ht, if_pos (by omega), Array.getElem?_toList]
      · rw [List.getElem?_append_right (by rw [List.length_append]; omega), if_neg (by omega), List.length_append, ht, List.getElem?_drop, Array.getElem?_toList]
        congr 2; omega
  rw [key, getD_splice _ _ _ _ hl]
  by_cases hin : off ≤ j ∧ j < off + xs.length
  · rw [if_pos hin, if_pos hin]; exact ⟨hx.at_ _ (by omega), hx.one _ (by omega)⟩
  · rw [if_neg hin, if_neg hin]; exact ⟨h j hj, h1 j hj⟩

theorem mem_dropCells {own : List Loc} {id off n : Nat} {l : Loc} (h : l ∈ dropCells own id off n) : l ∈ own ∧ ∀ i o, l = .cell i o → i = id → ¬ (off ≤ o ∧ o < off + n) := by
  unfold dropCells at h
  rw [List.mem_filter] at h
  refine ⟨h.1, ?_⟩
  rintro i o rfl rfl ⟨h1, h2⟩
  have h3 := h.2
  have e1 : Nat.ble off o = true := Nat.ble_eq_true_of_le h1
  have e2 : Nat.blt o (off + n) = true := (by rw [Nat.blt_eq]; exact h2)
  have e3 : Nat.beq i i = true := Nat.beq_refl i
  simp only [e1, e2, e3] at h3
  cases h3

theorem one_cells {x : AV} (h : x.isOne = true) : x.cells = [x] := by cases x <;> simp [AV.isOne] at h <;> rfl
theorem one_cells_val {M : Mem} {x : AV} {v : Value} (h : x.isOne = true) (r : Rep P M x v) : v.cells = #[v] := by
  cases r <;> simp [AV.isOne] at h <;> rfl

/-- A store, all of it. -/
theorem store_sound {G : Gh} {env : List (Nat × AV)} {H H' : List (Option Blk)} {own : List Loc} {tt : Nat → Value} (g : GOk G w) (hH : HeapRel P G H w) (ow : Owns P G env H own tt w) {t : TypeId} {id off : Nat} {x : AV} {p v : Value} {xo : Operand} {d : Nat}
    (h : storeA P H t (.ptr id off) x = some H') (rp : Rep P (G.mem w) (.ptr id off) p) (rx : Rep P (G.mem w) x v) (hxo : ∀ s, xo = .tmp s → x = look env s ∧ v = tt s) :
    ∃ w' G', (Instr.storeAt t p v).run P w = .ok () w' ∧ Done P G w env tt ⟨.tup [], H',
      (match xo with
       | .tmp s => cond (owns own (.slot s) && x.isOne) (give (drop (dropCells own id off x.cells.length) (.slot s)) (.cell id off)) (dropCells own id off x.cells.length)
       | _ => dropCells own id off x.cells.length), false⟩ d undef w' G' := by
  unfold storeA at h
  split at h
  case h_2 => cases h
  rename_i id' off' n hid hs
  injection hid with hid hoff
  subst hid; subst hoff
  split at h
  case h_2 => cases h
  rename_i k hk
  split at h
  case isFalse => cases h
  rename_i hc
  obtain ⟨c1, c2, c3⟩ := hc
  injection h with h; subst h
  cases rp with
  | ptr _ _ b hf =>
    change G.f id = some b at hf
    obtain ⟨ds, hd, hsz, hbs, hrep, hone⟩ := hH.blk id b k hf hk
    have hxc := cells_of rx (by omega)
    have husz : v.cells.toList.length = n := by rw [Array.length_toList, hxc.size, c1]
    have hlt : id < H.length := (hH.dom id b hf).lt
    obtain ⟨es, hes⟩ : ∃ es, es = (ds.toList.take off ++ v.cells.toList ++ ds.toList.drop (off + v.cells.toList.length)).toArray := ⟨_, rfl⟩
    have hess : es.size = ds.size := by
      rw [hes]; simp only [List.size_toArray, List.length_append, List.length_take, List.length_drop, Array.length_toList] at husz ⊢; omega
    have hrun : (Instr.storeAt t (.pointer (some ⟨b, off, none⟩)) v).run P w = .ok () (w.setRow b es) := by
      have hone' : ∀ u ∈ v.cells.toList, u.oneCell' = true := by
        intro u hu
        obtain ⟨j, hj, rfl⟩ := List.mem_iff_getElem.1 hu
        have := hxc.one j (by rw [c1, ← husz]; exact hj)
        simp only [Array.length_toList] at hj
        simpa [Array.getD_eq_getD_getElem?, hj] using this
      have hst := run_storeCells_at P b off k.e v.cells.toList 0 ds w hd (by rw [husz]; omega) hone'
      simp only [Nat.add_zero] at hst
      rw [hes]
      have hvs : ¬ (v.cells.size ≠ n) := by rw [hxc.size, c1]; simp
      simp only [Instr.storeAt, Instr.sureAddr, storeVar, Sem.run_bind, Sem.run_pure, Result.andThen_ok, run_sizeT hs, if_neg hvs, hst]
    have hext := store_ext g hf es
    have hgok := store_gok g b es
    have hnew : (w.setRow b es).heap[b]? = some (.cells es k.e (0, 0)) := setRow_heap w b ds es k.e (0, 0) hd
    have hoth : ∀ q, q ≠ b → (w.setRow b es).heap[q]? = w.heap[q]? := fun q hq => setRow_other w b q es hq
    have hsame : H[id]? = some (some k) := hk
    have hset : ∀ j q, (H.set id (some ⟨k.e, splice k.cs off x.cells⟩))[j]? = some (some q) → (j = id ∧ q = ⟨k.e, splice k.cs off x.cells⟩) ∨ (j ≠ id ∧ H[j]? = some (some q)) := by
      intro j q hj
      by_cases hji : j = id
      · subst hji
        rw [List.getElem?_set_self hlt] at hj
        injection hj with hj; injection hj with hj
        exact .inl ⟨rfl, hj.symm⟩
      · rw [List.getElem?_set_ne (fun e => hji e.symm)] at hj
        exact .inr ⟨hji, hj⟩
    have hkne : k.cs ≠ [] := by intro e; rw [e] at c3; simp only [List.length_nil] at c3; omega
    have hinjb : ∀ j q k', G.f j = some q → H[j]? = some (some k') → j ≠ id → k'.cs ≠ [] → q ≠ b := by
      intro j q k' hj hk' hne hn e
      subst e
      exact hne (hH.inj j id q k' k hj hf hk' hk hn hkne)
    have hheap : HeapRel P G (H.set id (some ⟨k.e, splice k.cs off x.cells⟩)) (w.setRow b es) := by
      refine ⟨?_, ?_, ?_⟩
      · intro j q hj; exact (hH.dom j q hj).set _ _
      · intro j q k' hj hk'
        rcases hset j k' hk' with ⟨rfl, rfl⟩ | ⟨hne, hk'⟩
        · rw [hf] at hj; injection hj with hj; subst hj
          have hsp := splice_cells hsz hrep hone hxc off (by omega)
          refine ⟨es, hnew, ?_, ?_, ?_, ?_⟩
          · rw [length_splice _ _ _ (by omega), hess]; exact hsz
          · rw [hess]; exact hbs
          · intro j' hj'; rw [← hes] at hsp; exact hext.rep (hsp j' hj').1
          · intro j' hj'; rw [← hes] at hsp; exact (hsp j' hj').2
        · obtain ⟨ds', q1, q2, q3, q4, q5⟩ := hH.blk j q k' hj hk'
          by_cases hqb : q = b
          · subst hqb
            have hn : k'.cs = [] := by
              rcases List.eq_nil_or_concat k'.cs with h | ⟨_, _, h⟩
              · exact h
              · exact absurd rfl (hinjb j q k' hj hk' hne (by rw [h]; simp))
            rw [hd] at q1; injection q1 with q1; injection q1 with q1 q6
            refine ⟨es, by rw [← q6]; exact hnew, by rw [hn]; exact Nat.zero_le _, by rw [hess]; exact hbs, fun j' hj' => ?_, fun j' hj' => ?_⟩
            · rw [hn] at hj'; exact absurd hj' (Nat.not_lt_zero _)
            · rw [hn] at hj'; exact absurd hj' (Nat.not_lt_zero _)
          · exact ⟨ds', by rw [hoth q hqb]; exact q1, q2, q3, fun j' hj' => hext.rep (q4 j' hj'), q5⟩
      · intro i j q k1 k2 h1 h2 h3 h4 n1 n2
        rcases hset i k1 h3 with ⟨q1, q2⟩ | ⟨hn1, q1⟩ <;> rcases hset j k2 h4 with ⟨q3, q4⟩ | ⟨hn2, q3⟩
        · rw [q1, q3]
        · exact hH.inj i j q k k2 h1 h2 (by rw [q1]; exact hk) q3 hkne n2
        · exact hH.inj i j q k1 k h1 h2 q1 (by rw [q3]; exact hk) n1 hkne
        · exact hH.inj i j q k1 k2 h1 h2 q1 q3 n1 n2
    -- an end that is kept
    have hkeep : ∀ (l : Loc) (y : AV) (u : Value), OwnAt P G w l y u → OwnAt P G (w.setRow b es) l y u := by
      intro l y u r e xs hx
      obtain ⟨sz, cells, h1, h2, h3, h4⟩ := r e xs hx
      refine ⟨sz, cells, h1, h2, h3.kept ⟨rfl, rfl, rfl, by simp, fun i _ hi => hoth i (fun e => hi (by rw [e]))⟩ (row := some b) ?_, h4⟩
      cases hu : u.ownBlock with
      | none => exact .inl rfl
      | some q =>
        refine .inr ?_
        intro e
        injection e with e
        subst e
        have := (h4 q hu).1
        rw [(g.fin id q hf).2.2] at this
        cases this
    have hcellkeep : ∀ id' off' b' k' cs', Loc.cell id' off' ∈ own → (id' = id → ¬ (off ≤ off' ∧ off' < off + x.cells.length)) → G.f id' = some b' → (H.set id (some ⟨k.e, splice k.cs off x.cells⟩))[id']? = some (some k') → (w.setRow b es).heap[b']? = some (.cells cs' k'.e (0, 0)) →
        OwnAt P G (w.setRow b es) (.cell id' off') (k'.cs.getD off' .undef) (cs'.getD off' undef) := by
      intro id' off' b' k' cs' hm hne hf' hk' hb'
      rcases hset id' k' hk' with ⟨rfl, rfl⟩ | ⟨hn, hk'⟩
      · rw [hf] at hf'; injection hf' with hf'; subst hf'
        have hne := hne rfl
        rw [hnew] at hb'; injection hb' with hb'; injection hb' with hb'; subst hb'
        have e1 : (splice k.cs off x.cells).getD off' .undef = k.cs.getD off' .undef := by rw [getD_splice _ _ _ _ (by omega), if_neg hne]
        have e2 : es.getD off' undef = ds.getD off' undef := by
          rw [hes]
          have ht : (ds.toList.take off).length = off := by simp; omega
          simp only [Array.getD_eq_getD_getElem?, List.getElem?_toArray]
          by_cases h2 : off' < off
          · rw [List.append_assoc, List.getElem?_append_left (by omega), List.getElem?_take, if_pos h2, Array.getElem?_toList]
          · rw [List.getElem?_append_right (by rw [List.length_append]; omega), List.length_append, ht, List.getElem?_drop, Array.getElem?_toList]
            congr 2; omega
        rw [e1, e2]
        exact hkeep _ _ _ (ow.cell id' off' b k ds hm hf hk hd)
      · by_cases hke : k'.cs = []
        · rw [hke]; intro e xs hx; cases hx
        have hqb := hinjb id' b' k' hf' hk' hn hke
        rw [hoth b' hqb] at hb'
        exact hkeep _ _ _ (ow.cell id' off' b' k' cs' hm hf' hk' hb')
    have base : Done P G w env tt ⟨.tup [], H.set id (some ⟨k.e, splice k.cs off x.cells⟩), dropCells own id off x.cells.length, false⟩ d undef (w.setRow b es) G :=
      ⟨hext, hgok, hheap, .tup [] #[] rfl (fun i hi => by simp at hi), fun s _ hs => hkeep _ _ _ (ow.slot s (mem_dropCells hs).1),
        fun id' off' b' k' cs' hc hf' hk' hb' => hcellkeep id' off' b' k' cs' (mem_dropCells hc).1 (fun e => (mem_dropCells hc).2 _ _ rfl e) hf' hk' hb', fun h => (by cases h),
        fun id' off' hm => (ow.dom id' off' (mem_dropCells hm).1).set _ _⟩
    cases xo with
    | tmp s =>
      obtain ⟨hxs, hvs⟩ := hxo s rfl
      by_cases hcond : (owns own (.slot s) && x.isOne) = true
      · simp only [hcond, cond_true]
        rw [Bool.and_eq_true, owns_iff] at hcond
        obtain ⟨hos, hx1⟩ := hcond
        have hn1 : n = 1 := by rw [← c1, one_cells hx1]; rfl
        refine ⟨w.setRow b es, G.ren (.slot s) (.cell id off), hrun, ?_⟩
        refine ⟨hext.trans (ren_ext G _ _), ren_gok hgok _ _, ren_heap hheap _ _, .tup [] #[] rfl (fun i hi => by simp at hi), ?_, ?_, fun h => (by cases h), ?_⟩
        · intro s' _ hs'
          rw [mem_give] at hs'
          rcases hs' with hs' | ⟨hs', _⟩
          · cases hs'
          · rw [mem_drop] at hs'
            exact ren_own_ne (hkeep _ _ _ (ow.slot s' (mem_dropCells hs'.1).1)) hs'.2 _
        · intro id' off' b' k' cs' hc hf' hk' hb'
          rw [mem_give] at hc
          rcases hc with hc | ⟨hc, hne⟩
          · injection hc with q1 q2
            subst q1; subst q2
            have hf'' : G.f id' = some b' := hf'
            rw [hf] at hf''; injection hf'' with hf''; subst hf''
            rcases hset id' k' hk' with ⟨_, rfl⟩ | ⟨hn, _⟩
            · rw [hnew] at hb'; injection hb' with hb'; injection hb' with hb'; subst hb'
              have e1 : (splice k.cs off' x.cells).getD off' .undef = x := by
                rw [getD_splice _ _ _ _ (by omega), if_pos (by omega), Nat.sub_self, one_cells hx1]; rfl
              have e2 : es.getD off' undef = v := by
                have hv1 := one_cells_val hx1 rx
                have ht : (ds.toList.take off').length = off' := by simp; omega
                rw [hes, hv1]
                simp only [Array.getD_eq_getD_getElem?, List.getElem?_toArray]
                rw [List.append_assoc, List.getElem?_append_right (by omega), ht, Nat.sub_self]
                rfl
              rw [e1, e2, hxs, hvs]
              exact ren_own (hkeep _ _ _ (ow.slot s hos)) _
            · exact absurd rfl hn
          · rw [mem_drop] at hc
            exact ren_own_ne (hcellkeep id' off' b' k' cs' (mem_dropCells hc.1).1 (fun e => (mem_dropCells hc.1).2 _ _ rfl e) hf' hk' hb') hc.2 _
        · intro id' off' hm
          rcases mem_give.1 hm with hm | ⟨hm, _⟩
          · injection hm with q1 _; rw [q1]; exact Live.set ⟨k, hk⟩ _ _
          · exact (ow.dom id' off' (mem_dropCells (mem_drop.1 hm).1).1).set _ _
      · have : (owns own (.slot s) && x.isOne) = false := by simpa using hcond
        simp only [this, cond_false]
        exact ⟨_, _, hrun, base⟩
    | const c => exact ⟨_, _, hrun, base⟩
    | global q => exact ⟨_, _, hrun, base⟩
    | func q => exact ⟨_, _, hrun, base⟩

end
end Go.Proofs.Ytnajopkaepjncaa.Am
