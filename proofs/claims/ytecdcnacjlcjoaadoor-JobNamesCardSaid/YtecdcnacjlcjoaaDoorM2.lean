/- The abstract machine is right, eleventh part: stores. -/
import Derived.Test.YtecdcnacjlcjoaaDoorM1
/- The abstract machine is right, eleventh part: stores. -/
namespace Go.Proofs.YtecdcnacjlcjoaaDoor.Am
set_option linter.unusedVariables false
set_option linter.unusedSimpArgs false
open Go.RowKit

section
variable {P : Program} {w : World}

/-- A block of the machine's is written: all else stays. -/
theorem store_ext {G : Gh} (g : GOk G w) {id b : Nat} (hf : G.f id = some b) (hl : G.lim b = 0) (cs : Array Value) : Ext G w G (w.setRow b cs) where
  os := rfl
  tape := rfl
  output := rfl
  size := by simp
  prot := by
    intro k o q hq
    have hk : k ≠ b := by
      rintro rfl
      unfold pmOf at hq
      rw [hl] at hq
      simp at hq
    unfold pmOf at hq ⊢
    split at hq
    · rename_i h; rw [if_pos h, World.cell?_of_block (setRow_other w b k cs hk)]; exact hq
    · cases hq
  f := fun _ _ h => h
  bs := fun _ => Nat.le_refl _
  foreign := by
    intro k hk hn
    have hkb : k ≠ b := by rintro rfl; exact hn (.inl ⟨id, hf⟩)
    exact ⟨setRow_other w b k cs hkb, rfl, hn⟩
theorem store_gok {G : Gh} (g : GOk G w) (b : Nat) (cs : Array Value) (hx : Ext G w G (w.setRow b cs)) : GOk G (w.setRow b cs) where
  fin := fun id k h => by simpa using g.fin id k h
  new := fun k hk => g.new k (by simpa using hk)
  held := hx.held g.held

theorem own_setRow {G : Gh} (g : GOk G w) {id b : Nat} (hf : G.f id = some b) (es : Array Value) (l : Loc) (y : AV) (u : Value) (r : OwnAt P G w l y u) : OwnAt P G (w.setRow b es) l y u := by
  intro e xs hx
  obtain ⟨sz, cells, h1, h2, h3, h4⟩ := r e xs hx
  refine ⟨sz, cells, h1, h2, h3.kept ⟨rfl, rfl, rfl, by simp, fun i _ hi => setRow_other w b i es (fun e => hi (by rw [e]))⟩ (row := some b) ?_, h4⟩
  cases hu : u.ownBlock with
  | none => exact .inl rfl
  | some q =>
    refine .inr ?_
    intro e
    injection e with e
    subst e
    have := (h4 q hu).1
    rw [(g.fin id q hf).2] at this
    cases this
theorem splice_cells {M : Mem} {cs : List AV} {ds : Array Value} (hsz : cs.length ≤ ds.size) (h : ∀ j, j < cs.length → Rep P M (cs.getD j .undef) (ds.getD j undef)) (h1 : ∀ j, j < cs.length → (ds.getD j undef).oneCell' = true)
    {xs : List AV} {us : Array Value} (hx : CellsRep P M xs us) (off : Nat) (hl : off + xs.length ≤ cs.length) :
    ∀ j, j < (splice cs off xs).length → Rep P M ((splice cs off xs).getD j .undef) (((ds.toList.take off ++ us.toList ++ ds.toList.drop (off + us.toList.length)).toArray).getD j undef) ∧
      (((ds.toList.take off ++ us.toList ++ ds.toList.drop (off + us.toList.length)).toArray).getD j undef).oneCell' = true := by
  intro j hj
  rw [length_splice _ _ _ hl] at hj
  have hus : us.toList.length = xs.length := by rw [Array.length_toList, hx.size]
  have key : ((ds.toList.take off ++ us.toList ++ ds.toList.drop (off + us.toList.length)).toArray).getD j undef = if off ≤ j ∧ j < off + xs.length then us.getD (j - off) undef else ds.getD j undef := by
    have ht : (ds.toList.take off).length = off := by simp; omega
    simp only [Array.getD_eq_getD_getElem?, List.getElem?_toArray]
    by_cases h2 : j < off
    · rw [List.append_assoc, List.getElem?_append_left (by omega), List.getElem?_take, if_pos h2, if_neg (by omega), Array.getElem?_toList]
    · by_cases h3 : j < off + xs.length
      · rw [List.append_assoc, List.getElem?_append_right (by omega), List.getElem?_append_left (by omega), ht, if_pos (by omega), Array.getElem?_toList]
      · rw [List.getElem?_append_right (by rw [List.length_append]; omega), if_neg (by omega), List.length_append, ht, List.getElem?_drop, Array.getElem?_toList]
        congr 2; omega
  rw [key, getD_splice _ _ _ _ hl]
  by_cases hin : off ≤ j ∧ j < off + xs.length
  · rw [if_pos hin, if_pos hin]; exact ⟨hx.at_ _ (by omega), hx.one _ (by omega)⟩
  · rw [if_neg hin, if_neg hin]; exact ⟨h j hj, h1 j hj⟩

theorem mem_dropCells {own : List Loc} {id off n : Nat} {l : Loc} (h : l ∈ dropCells own id off n) : l ∈ own ∧ ∀ i o, l = .cell i o → i = id → ¬ (off ≤ o ∧ o < off + n) := by
  unfold dropCells at h
  rw [List.mem_filter] at h
  refine ⟨h.1, ?_⟩
  rintro i o rfl rfl ⟨h1, h2⟩
  have h3 := h.2
  have e1 : Nat.ble off o = true := Nat.ble_eq_true_of_le h1
  have e2 : Nat.blt o (off + n) = true := (by rw [Nat.blt_eq]; exact h2)
  have e3 : Nat.beq i i = true := Nat.beq_refl i
  simp only [e1, e2, e3] at h3
  cases h3

theorem one_cells {x : AV} (h : x.isOne = true) : x.cells = [x] := by cases x <;> simp [AV.isOne] at h <;> rfl
theorem one_cells_val {M : Mem} {x : AV} {v : Value} (h : x.isOne = true) (r : Rep P M x v) : v.cells = #[v] := by
  cases r <;> simp [AV.isOne] at h <;> rfl

/-- A store, all of it. -/
theorem store_sound {G : Gh} {env : List (Nat × AV)} {H H' : List (Option Blk)} {own : List Loc} {tt : Nat → Value} (g : GOk G w) (hH : HeapRel P G H w) (ow : Owns P G env H own tt w) {t : TypeId} {id off : Nat} {x : AV} {p v : Value} {xo : Operand} {d : Nat}
    (h : storeA P H t (.ptr id off) x = some H') (rp : Rep P (G.mem w) (.ptr id off) p) (rx : Rep P (G.mem w) x v) (hxo : ∀ s, xo = .tmp s → x = look env s ∧ v = tt s) :
    ∃ w' G', (Instr.storeAt t p v).run P w = .ok () w' ∧ Done P G w env tt ⟨.tup [], H',
      (match xo with
       | .tmp s => cond (owns own (.slot s) && x.isOne) (give (drop (dropCells own id off x.cells.length) (.slot s)) (.cell id off)) (dropCells own id off x.cells.length)
       | _ => dropCells own id off x.cells.length), false⟩ d undef w' G' := by
  unfold storeA at h
  split at h
  case h_2 => cases h
  rename_i id' off' n hid hs
  injection hid with hid hoff
  subst hid; subst hoff
  split at h
  case h_2 => cases h
  rename_i k hk
  split at h
  case isFalse => cases h
  rename_i hc
  obtain ⟨hke, c1, c2, c3⟩ := hc
  injection h with h; subst h
  cases rp with
  | ptr _ _ b hf =>
    change G.f id = some b at hf
    obtain ⟨ds, hd, hsz, hbs, hrep, hone⟩ := (hH.blk id b k hf hk).1 hke
    have hxc := cells_of rx (by omega)
    have husz : v.cells.toList.length = n := by rw [Array.length_toList, hxc.size, c1]
    have hlt : id < H.length := (hH.dom id b hf).lt
    obtain ⟨es, hes⟩ : ∃ es, es = (ds.toList.take off ++ v.cells.toList ++ ds.toList.drop (off + v.cells.toList.length)).toArray := ⟨_, rfl⟩
    have hess : es.size = ds.size := by
      rw [hes]; simp only [List.size_toArray, List.length_append, List.length_take, List.length_drop, Array.length_toList] at husz ⊢; omega
    have hrun : (Instr.storeAt t (.pointer (some ⟨b, off, none⟩)) v).run P w = .ok () (w.setRow b es) := by
      have hone' : ∀ u ∈ v.cells.toList, u.oneCell' = true := by
        intro u hu
        obtain ⟨j, hj, rfl⟩ := List.mem_iff_getElem.1 hu
        have := hxc.one j (by rw [c1, ← husz]; exact hj)
        simp only [Array.length_toList] at hj
        simpa [Array.getD_eq_getD_getElem?, hj] using this
      have hst := run_storeCells_at P b off k.e v.cells.toList 0 ds w hd (by rw [husz]; omega) hone'
      simp only [Nat.add_zero] at hst
      rw [hes]
      have hvs : ¬ (v.cells.size ≠ n) := by rw [hxc.size, c1]; simp
      simp only [Instr.storeAt, Instr.sureAddr, storeVar, Sem.run_bind, Sem.run_pure, Result.andThen_ok, run_sizeT hs, if_neg hvs, hst]
    have hkne : k.cs ≠ [] := by intro e; rw [e] at c3; simp only [List.length_nil] at c3; omega
    have hext := store_ext g hf (hH.lim id b k hf hk hkne) es
    have hgok := store_gok g b es hext
    have hnew : (w.setRow b es).heap[b]? = some (.cells es k.e (0, 0)) := setRow_heap w b ds es k.e (0, 0) hd
    have hoth : ∀ q, q ≠ b → (w.setRow b es).heap[q]? = w.heap[q]? := fun q hq => setRow_other w b q es hq
    have hsame : H[id]? = some (some k) := hk
    have hset : ∀ j q, (H.set id (some ⟨k.e, splice k.cs off x.cells⟩))[j]? = some (some q) → (j = id ∧ q = ⟨k.e, splice k.cs off x.cells⟩) ∨ (j ≠ id ∧ H[j]? = some (some q)) := by
      intro j q hj
      by_cases hji : j = id
      · subst hji
        rw [List.getElem?_set_self hlt] at hj
        injection hj with hj; injection hj with hj
        exact .inl ⟨rfl, hj.symm⟩
      · rw [List.getElem?_set_ne (fun e => hji e.symm)] at hj
        exact .inr ⟨hji, hj⟩
    have hinjb : ∀ j q k', G.f j = some q → H[j]? = some (some k') → j ≠ id → k'.cs ≠ [] → q ≠ b := by
      intro j q k' hj hk' hne hn e
      subst e
      exact hne (hH.inj j id q k' k hj hf hk' hk hn hkne)
    have hheap : HeapRel P G (H.set id (some ⟨k.e, splice k.cs off x.cells⟩)) (w.setRow b es) := by
      refine ⟨?_, ?_, ?_, ?_⟩
      · intro j q hj; exact (hH.dom j q hj).set _ _
      · intro j q k' hj hk'
        rcases hset j k' hk' with ⟨rfl, rfl⟩ | ⟨hne, hk'⟩
        · rw [hf] at hj; injection hj with hj; subst hj
          have hsp := splice_cells hsz hrep hone hxc off (by omega)
          refine BlkAt.cells ⟨es, hnew, ?_, ?_, ?_, ?_⟩ hke
          · rw [length_splice _ _ _ (by omega), hess]; exact hsz
          · rw [hess]; exact hbs
          · intro j' hj'; rw [← hes] at hsp; exact hext.rep (hsp j' hj').1
          · intro j' hj'; rw [← hes] at hsp; exact (hsp j' hj').2
        · have hB := hH.blk j q k' hj hk'
          by_cases hqb : q = b
          · subst hqb
            have hn : k'.cs = [] := by
              rcases List.eq_nil_or_concat k'.cs with h | ⟨_, _, h⟩
              · exact h
              · exact absurd rfl (hinjb j q k' hj hk' hne (by rw [h]; simp))
            have hke' : Nat.beq k'.e LOOP = false := hB.cs_nil hn
            obtain ⟨ds', q1, q2, q3, q4, q5⟩ := hB.1 hke'
            rw [hd] at q1; injection q1 with q1; injection q1 with q1 q6
            refine BlkAt.cells ⟨es, by rw [← q6]; exact hnew, by rw [hn]; exact Nat.zero_le _, by rw [hess]; exact hbs, fun j' hj' => ?_, fun j' hj' => ?_⟩ hke'
            · rw [hn] at hj'; exact absurd hj' (Nat.not_lt_zero _)
            · rw [hn] at hj'; exact absurd hj' (Nat.not_lt_zero _)
          · exact hB.to (hoth q hqb) rfl hext.mem
      · intro i j q k1 k2 h1 h2 h3 h4 n1 n2
        rcases hset i k1 h3 with ⟨q1, q2⟩ | ⟨hn1, q1⟩ <;> rcases hset j k2 h4 with ⟨q3, q4⟩ | ⟨hn2, q3⟩
        · rw [q1, q3]
        · exact hH.inj i j q k k2 h1 h2 (by rw [q1]; exact hk) q3 hkne n2
        · exact hH.inj i j q k1 k h1 h2 q1 (by rw [q3]; exact hk) n1 hkne
        · exact hH.inj i j q k1 k2 h1 h2 q1 q3 n1 n2
      · intro j q k' hj hk' hn
        rcases hset j k' hk' with ⟨rfl, _⟩ | ⟨_, hk'⟩
        · exact hH.lim _ q k hj hk hkne
        · exact hH.lim j q k' hj hk' hn
    -- an end that is kept
    have hkeep : ∀ (l : Loc) (y : AV) (u : Value), OwnAt P G w l y u → OwnAt P G (w.setRow b es) l y u := by
      intro l y u r e xs hx
      obtain ⟨sz, cells, h1, h2, h3, h4⟩ := r e xs hx
      refine ⟨sz, cells, h1, h2, h3.kept ⟨rfl, rfl, rfl, by simp, fun i _ hi => hoth i (fun e => hi (by rw [e]))⟩ (row := some b) ?_, h4⟩
      cases hu : u.ownBlock with
      | none => exact .inl rfl
      | some q =>
        refine .inr ?_
        intro e
        injection e with e
        subst e
        have := (h4 q hu).1
        rw [(g.fin id q hf).2] at this
        cases this
    have hcellkeep : ∀ id' off' b' k' cs', Loc.cell id' off' ∈ own → (id' = id → ¬ (off ≤ off' ∧ off' < off + x.cells.length)) → G.f id' = some b' → (H.set id (some ⟨k.e, splice k.cs off x.cells⟩))[id']? = some (some k') → (w.setRow b es).heap[b']? = some (.cells cs' k'.e (0, 0)) →
        OwnAt P G (w.setRow b es) (.cell id' off') (k'.cs.getD off' .undef) (cs'.getD off' undef) := by
      intro id' off' b' k' cs' hm hne hf' hk' hb'
      rcases hset id' k' hk' with ⟨rfl, rfl⟩ | ⟨hn, hk'⟩
      · rw [hf] at hf'; injection hf' with hf'; subst hf'
        have hne := hne rfl
        rw [hnew] at hb'; injection hb' with hb'; injection hb' with hb'; subst hb'
        have e1 : (splice k.cs off x.cells).getD off' .undef = k.cs.getD off' .undef := by rw [getD_splice _ _ _ _ (by omega), if_neg hne]
        have e2 : es.getD off' undef = ds.getD off' undef := by
          rw [hes]
          have ht : (ds.toList.take off).length = off := by simp; omega
          simp only [Array.getD_eq_getD_getElem?, List.getElem?_toArray]
          by_cases h2 : off' < off
          · rw [List.append_assoc, List.getElem?_append_left (by omega), List.getElem?_take, if_pos h2, Array.getElem?_toList]
          · rw [List.getElem?_append_right (by rw [List.length_append]; omega), List.length_append, ht, List.getElem?_drop, Array.getElem?_toList]
            congr 2; omega
        rw [e1, e2]
        exact hkeep _ _ _ (ow.cell id' off' b k ds hm hf hk hd)
      · by_cases hke : k'.cs = []
        · rw [hke]; intro e xs hx; cases hx
        have hqb := hinjb id' b' k' hf' hk' hn hke
        rw [hoth b' hqb] at hb'
        exact hkeep _ _ _ (ow.cell id' off' b' k' cs' hm hf' hk' hb')
    have base : Done P G w env tt ⟨.tup [], H.set id (some ⟨k.e, splice k.cs off x.cells⟩), dropCells own id off x.cells.length, false⟩ d undef (w.setRow b es) G :=
      ⟨hext, hgok, hheap, .tup [] #[] rfl (fun i hi => by simp at hi), fun s _ hs => hkeep _ _ _ (ow.slot s (mem_dropCells hs).1),
        fun id' off' b' k' cs' hc hf' hk' hb' => hcellkeep id' off' b' k' cs' (mem_dropCells hc).1 (fun e => (mem_dropCells hc).2 _ _ rfl e) hf' hk' hb', fun h => (by cases h),
        fun id' off' hm => (ow.dom id' off' (mem_dropCells hm).1).set _ _⟩
    cases xo with
    | tmp s =>
      obtain ⟨hxs, hvs⟩ := hxo s rfl
      by_cases hcond : (owns own (.slot s) && x.isOne) = true
      · simp only [hcond, cond_true]
        rw [Bool.and_eq_true, owns_iff] at hcond
        obtain ⟨hos, hx1⟩ := hcond
        have hn1 : n = 1 := by rw [← c1, one_cells hx1]; rfl
        refine ⟨w.setRow b es, G.ren (.slot s) (.cell id off), hrun, ?_⟩
        refine ⟨hext.trans (ren_ext G _ _), ren_gok hgok _ _, ren_heap hheap _ _, .tup [] #[] rfl (fun i hi => by simp at hi), ?_, ?_, fun h => (by cases h), ?_⟩
        · intro s' _ hs'
          rw [mem_give] at hs'
          rcases hs' with hs' | ⟨hs', _⟩
          · cases hs'
          · rw [mem_drop] at hs'
            exact ren_own_ne (hkeep _ _ _ (ow.slot s' (mem_dropCells hs'.1).1)) hs'.2 _
        · intro id' off' b' k' cs' hc hf' hk' hb'
          rw [mem_give] at hc
          rcases hc with hc | ⟨hc, hne⟩
          · injection hc with q1 q2
            subst q1; subst q2
            have hf'' : G.f id' = some b' := hf'
            rw [hf] at hf''; injection hf'' with hf''; subst hf''
            rcases hset id' k' hk' with ⟨_, rfl⟩ | ⟨hn, _⟩
            · rw [hnew] at hb'; injection hb' with hb'; injection hb' with hb'; subst hb'
              have e1 : (splice k.cs off' x.cells).getD off' .undef = x := by
                rw [getD_splice _ _ _ _ (by omega), if_pos (by omega), Nat.sub_self, one_cells hx1]; rfl
              have e2 : es.getD off' undef = v := by
                have hv1 := one_cells_val hx1 rx
                have ht : (ds.toList.take off').length = off' := by simp; omega
                rw [hes, hv1]
                simp only [Array.getD_eq_getD_getElem?, List.getElem?_toArray]
                rw [List.append_assoc, List.getElem?_append_right (by omega), ht, Nat.sub_self]
                rfl
              rw [e1, e2, hxs, hvs]
              exact ren_own (hkeep _ _ _ (ow.slot s hos)) _
            · exact absurd rfl hn
          · rw [mem_drop] at hc
            exact ren_own_ne (hcellkeep id' off' b' k' cs' (mem_dropCells hc.1).1 (fun e => (mem_dropCells hc.1).2 _ _ rfl e) hf' hk' hb') hc.2 _
        · intro id' off' hm
          rcases mem_give.1 hm with hm | ⟨hm, _⟩
          · injection hm with q1 _; rw [q1]; exact Live.set ⟨k, hk⟩ _ _
          · exact (ow.dom id' off' (mem_dropCells (mem_drop.1 hm).1).1).set _ _
      · have : (owns own (.slot s) && x.isOne) = false := by simpa using hcond
        simp only [this, cond_false]
        exact ⟨_, _, hrun, base⟩
    | const c => exact ⟨_, _, hrun, base⟩
    | global q => exact ⟨_, _, hrun, base⟩
    | func q => exact ⟨_, _, hrun, base⟩

end
end Go.Proofs.YtecdcnacjlcjoaaDoor.Am

/- The abstract machine is right, twelfth part: every operation that is no call. -/
namespace Go.Proofs.YtecdcnacjlcjoaaDoor.Am
set_option linter.unusedVariables false
set_option linter.unusedSimpArgs false
open Go.RowKit

section
variable {P : Program} {w : World}

/-- The slots hold what the machine says. -/
def EnvRel (P : Program) (M : Mem) (env : List (Nat × AV)) (a : Act) : Prop := ∀ s, Rep P M (look env s) (a.tmps.getD s undef)
theorem EnvRel.opd {M : Mem} {env : List (Nat × AV)} {a : Act} (h : EnvRel P M env a) {x : Operand} {y : AV} (hx : evalO env x = some y) : Rep P M y (a.eval x) := by
  cases x with
  | tmp t => simp only [evalO, Option.some.injEq] at hx; subst hx; exact h t
  | const v => exact Rep.const hx
  | global g => cases hx
  | func f => simp only [evalO, Option.some.injEq] at hx; subst hx; exact .fn f [] #[] rfl (fun i hi => by simp at hi)
theorem EnvRel.ops {M : Mem} {env : List (Nat × AV)} {a : Act} (h : EnvRel P M env a) (xs : List Operand) : OpsRel P M env a.eval xs := fun x _ y hy => h.opd hy

def slotsOf (a : Act) : Nat → Value := fun s => a.tmps.getD s undef

/-- A value that is read of what is not turned. -/
theorem bytesOf_list {M : Mem} {G : Gh} (hM : M = G.mem w) {src dst e : TypeId} {xs sp : List AV} {v : Value} {s : List UInt8} (hs : P.underlying src = some (.slice e)) (he : P.underlying e = some (.int .u8)) (hd : P.underlying dst = some .string)
    (r : Rep P M (.lst e xs sp) v) (h : xs.mapM byteA = some s) : (Go.convert src dst v).run P w = .ok (.string ⟨⟨s⟩⟩) w := by
  subst hM
  have hx : ∀ (xs : List AV) (s : List UInt8), xs.mapM byteA = some s → ∃ ns : List Int, xs = ns.map (AV.int .u8) ∧ s = ns.map fun n => UInt8.ofNat n.toNat := by
    intro xs
    induction xs with
    | nil => intro s h; simp at h; subst h; exact ⟨[], rfl, rfl⟩
    | cons x r ih =>
      intro s h
      rw [List.mapM_cons] at h
      cases hb : byteA x with
      | none => simp [hb] at h
      | some b =>
        cases hr : r.mapM byteA with
        | none => simp [hb, hr] at h
        | some bs =>
          simp [hb, hr] at h; subst h
          obtain ⟨ns, h1, h2⟩ := ih bs hr
          unfold byteA at hb
          split at hb
          · rename_i n
            injection hb with hb
            exact ⟨n :: ns, by rw [h1]; rfl, by rw [h2, ← hb]; rfl⟩
          · cases hb
  obtain ⟨ns, rfl, rfl⟩ := hx xs s h
  cases r with
  | lst _ _ _ a cap sz b off c hsz hz hall hcap ha hc hr h1 =>
    by_cases h0 : ns.map (AV.int .u8) ++ sp = []
    · have h0' : ns = [] := by simpa using (List.append_eq_nil_iff.1 h0).1
      subst h0'
      cases a with
      | none => exact run_convert_bytes_nil w src e hs he _ _ dst hd
      | some ad =>
        simp only [Go.convert, Sem.run_bind, run_underlying' hs, run_underlying' hd, Result.andThen_ok, run_underlying' he]
        rfl
    · obtain rfl := ha h0
      have hfl : ∀ l : List Int, flat (l.map (AV.int .u8)) = l.map (AV.int .u8) := by
        intro l
        induction l with
        | nil => rfl
        | cons b r ih => simp only [flat, List.map_cons, List.flatMap_cons] at ih ⊢; rw [ih]; rfl
      rw [List.length_map]
      refine run_convert_bytes_arg w src e hs he b off ns.length cap ns rfl ?_ dst hd
      intro j hj
      have hj' : j < (flat (ns.map (AV.int .u8) ++ sp)).length := by rw [flat_append, List.length_append, hfl, List.length_map]; omega
      have hcell := pm_cell (hc j hj')
      have hrep := hr j hj'
      rw [flat_append, hfl] at hrep
      simp only [List.getD_eq_getElem?_getD] at hrep ⊢
      rw [List.getElem?_append_left (by rw [List.length_map]; exact hj), List.getElem?_map, List.getElem?_eq_getElem hj] at hrep
      rw [hcell, List.getElem?_eq_getElem hj]
      have := int_inv hrep
      rw [this]; rfl

theorem natA_spec {x : AV} {n : Nat} {M : Mem} {v : Value} (h : natA x = some n) (r : Rep P M x v) : ∃ k, v = .int k n := by
  unfold natA at h
  split at h
  · rename_i k q
    split at h
    · injection h with h; subst h
      have := int_inv r
      exact ⟨k, by rw [this, Int.toNat_of_nonneg (by assumption)]⟩
    · cases h
  · cases h

def isCallOp : Op → Bool
  | .call { callee := .value _, .. } => true
  | .call { callee := .invoke _ _, .. } => true
  | _ => false

theorem core_sound {G : Gh} {env : List (Nat × AV)} {H : List (Option Blk)} {own : List Loc} {a : Act} {call : CallA} {ops : List Oper} {o : Oper} {r : Res} (g : GOk G w) (hH : HeapRel P G H w) (ow : Owns P G env H own (slotsOf a) w) (he : EnvRel P (G.mem w) env a)
    (hc : isCallOp o.op = false) (h : core call P ops o env H own = some r) (d : Nat) :
    ∃ v w' G', ((execOp a.eval o).run P w = .ok (.value v) w' ∨ ((execOp a.eval o).run P w = .ok .skip w' ∧ v = undef)) ∧ Done P G w env (slotsOf a) r d v w' G' := by
  have pureCase : ∀ x, pureOp P env o.op = some x → r = ⟨x, H, own, false⟩ → ∃ v w' G', ((execOp a.eval o).run P w = .ok (.value v) w' ∨ ((execOp a.eval o).run P w = .ok .skip w' ∧ v = undef)) ∧ Done P G w env (slotsOf a) r d v w' G' := by
    intro x hx hr
    obtain ⟨v, hv, rv⟩ := pureOp_sound (w := w) hx (he.ops _)
    subst hr
    exact ⟨v, w, G, .inl hv, done_same g hH ow d rv⟩
  have hid : G.f H.length = none := by
    cases hf : G.f H.length with
    | none => rfl
    | some b => have := (hH.dom _ _ hf).lt; omega
  have newCase : ∀ (k : Blk) (cs : Array Value), CellsRep P (G.mem w) k.cs cs → Nat.beq k.e LOOP = false → Done P G w env (slotsOf a) ⟨.ptr H.length 0, H ++ [some k], own, false⟩ d (.pointer (some ⟨w.heap.size, 0, none⟩)) (w.alloc (.cells cs k.e)) (G.map H.length w.heap.size cs.size) := by
    intro k cs hcs hke
    have hH1 : HeapRel P G (H ++ [some k]) w := by
      refine ⟨fun i b hf => (hH.dom i b hf).append _, fun i b k hf hk => ?_, fun i j b k l h1 h2 h3 h4 n1 n2 => ?_, fun i b k hf hk hn => ?_⟩
      · have := (hH.dom i b hf).lt
        rw [List.getElem?_append_left this] at hk
        exact hH.blk i b k hf hk
      · have q1 := (hH.dom i b h1).lt
        have q2 := (hH.dom j b h2).lt
        rw [List.getElem?_append_left q1] at h3
        rw [List.getElem?_append_left q2] at h4
        exact hH.inj i j b k l h1 h2 h3 h4 n1 n2
      · have := (hH.dom i b hf).lt
        rw [List.getElem?_append_left this] at hk
        exact hH.lim i b k hf hk hn
    have ow1 : Owns P G env (H ++ [some k]) own (slotsOf a) w := ⟨ow.slot, fun i off b k cs hm hf hk hb => by
      have := (hH.dom i b hf).lt
      rw [List.getElem?_append_left this] at hk
      exact ow.cell i off b k cs hm hf hk hb, fun i off hm => (ow.dom i off hm).append _⟩
    exact done_new (xs := k.cs) (e := k.e) g hH1 ow1 hid hcs (by rw [List.getElem?_append_right (Nat.le_refl _)]; simp) (fun off hm => by have := (ow.dom _ off hm).lt; omega) hke d
  obtain ⟨dst, op, ty, pos, after, guard⟩ := o
  simp only at hc pureCase
  unfold core at h
  simp only at h
  split at h
  case h_1 v =>
    injection h with h
    by_cases hb : (owns own (.slot v) && appDst ops dst) = true
    · rw [hb] at h; simp only [cond_true] at h; subst h
      rw [Bool.and_eq_true, owns_iff] at hb
      exact ⟨_, _, _, .inl rfl, done_slot g hH ow v d hb.1 (he v)⟩
    · have hb' : (owns own (.slot v) && appDst ops dst) = false := by simpa using hb
      rw [hb'] at h; simp only [cond_false] at h; subst h
      exact ⟨_, _, _, .inl rfl, done_same g hH ow d (he v)⟩
  case h_2 t ad =>
    split at h
    · rename_i p hp
      split at h
      · rename_i x hx
        have rp := he.opd hp
        obtain ⟨u, hu, ru, hcell⟩ := load_sound hx rp (fun id off b k _ hf hk => hH.blk id b k hf hk)
        have hrun : (execOp a.eval { dst := dst, op := .load t ad, type := ty, pos := pos, after := after, guard := guard }).run P w = .ok (.value u) w := by
          simp only [execOp, Sem.run_bind, hu, Result.andThen_ok, Sem.run_pure]
        split at h
        · rename_i id off
          injection h with h
          by_cases hb : (owns own (.cell id off) && appDst ops dst && (sizeT P t == some 1) && (isAggT P t == some false)) = true
          · rw [hb] at h; simp only [cond_true] at h; subst h
            simp only [Bool.and_eq_true, owns_iff, beq_iff_eq] at hb
            obtain ⟨⟨⟨hb1, hb2⟩, hb3⟩, hb4⟩ := hb
            generalize hav : a.eval ad = av at rp
            cases rp with
            | ptr _ _ b hf =>
              have hf' : G.f id = some b := hf
              unfold loadA at hx
              rw [hb3] at hx
              simp only at hx
              split at hx
              · rename_i cs hcs
                unfold readCells at hcs
                split at hcs
                · rename_i k hk
                  split at hcs
                  · rename_i hle0
                    obtain ⟨hke, hle⟩ := hle0
                    injection hcs with hcs
                    obtain ⟨ds, hd, hsz, hbs, hrep, hone⟩ := (hH.blk id b k hf' hk).1 hke
                    have hoff : off < k.cs.length := by omega
                    have hxe : k.cs.getD off .undef = x := by
                      have hcs1 : cs = [k.cs.getD off .undef] := by
                        rw [← hcs, List.getD_eq_getElem?_getD, List.getElem?_eq_getElem hoff]
                        apply List.ext_getElem?
                        intro i
                        cases i with
                        | zero => simp [List.getElem?_take, List.getElem?_drop, List.getElem?_eq_getElem hoff]
                        | succ i => simp [List.getElem?_take]
                      rw [hcs1] at hx
                      unfold ofCells at hx
                      rw [hb4] at hx
                      simp only at hx
                      split at hx
                      · injection hx
                      · cases hx
                    have hue : ds.getD off undef = u := by
                      have h1 := hcell id off b rfl hf' hb3 hb4
                      have hod : off < ds.size := by omega
                      have h2 : w.cell? ⟨b, off, none⟩ = some ds[off] := by simp [World.cell?, hd, hod]
                      rw [h2] at h1; injection h1 with h1
                      rw [← h1]; simp [Array.getD_eq_getD_getElem?, hod]
                    exact ⟨u, _, _, .inl hrun, done_cell g hH ow id off d hb1 hf' hk hd hxe hue ru⟩
                  · cases hcs
                · cases hcs
              · cases hx
          · have hb' : (owns own (.cell id off) && appDst ops dst && (sizeT P t == some 1) && (isAggT P t == some false)) = false := by simpa using hb
            rw [hb'] at h; simp only [cond_false] at h; subst h
            exact ⟨u, _, _, .inl hrun, done_same g hH ow d ru⟩
        · injection h with h; subst h
          exact ⟨u, _, _, .inl hrun, done_same g hH ow d ru⟩
      · cases h
    · cases h
  case h_3 e =>
    split at h
    · rename_i z hz
      split at h
      case isFalse => cases h
      rename_i hke
      injection h with h; subst h
      obtain ⟨zv, hzr, hzc⟩ := zero_sound (M := G.mem w) (w := w) hz
      refine ⟨_, _, _, .inl ?_, newCase ⟨e, z⟩ zv.cells hzc hke⟩
      simp only [execOp, Instr.alloc, Sem.run_bind, hzr, Result.andThen_ok, newVar, newRow, run_newObj, Sem.run_pure]
      rfl
    · cases h
  case h_4 e x =>
    split at h
    · rename_i y hy
      split at h
      · rename_i hpos
        injection h with h; subst h
        have ry := he.opd hy
        refine ⟨_, _, _, .inl ?_, newCase ⟨e, y.cells⟩ (a.eval x).cells (cells_of ry hpos.2) hpos.1⟩
        simp only [execOp, Instr.box, Sem.run_bind, Result.andThen_ok, newVar, newRow, run_newObj, Sem.run_pure]
        rfl
      · cases h
    · cases h
  case h_5 t ad x =>
    split at h
    · rename_i id off v hp hv
      split at h
      · rename_i H' hs
        injection h with h
        have := store_sound (xo := x) (d := d) g hH ow (storeL_some hs).2 (he.opd hp) (he.opd hv) (by
          intro s hs'; subst hs'
          simp only [evalO, Option.some.injEq] at hv
          exact ⟨hv.symm, rfl⟩)
        obtain ⟨w', G', hrun, hd⟩ := this
        subst h
        refine ⟨undef, w', G', .inr ⟨?_, rfl⟩, ?_⟩
        · simp only [execOp, Sem.run_bind, hrun, Result.andThen_ok, Sem.run_pure]
        · exact hd
      · cases h
    · cases h
  case h_6 x =>
    split at h
    · rename_i v hv
      split at h
      · rename_i s
        injection h with h
        simp only [evalO, Option.some.injEq] at hv
        subst hv
        by_cases hb : owns own (.slot s) = true
        · rw [hb] at h; simp only [cond_true] at h; subst h
          exact ⟨_, _, _, .inl rfl, done_slot g hH ow s d (owns_iff.1 hb) (he s)⟩
        · have hb' : owns own (.slot s) = false := by simpa using hb
          rw [hb'] at h; simp only [cond_false] at h; subst h
          exact ⟨_, _, _, .inl rfl, done_same g hH ow d (he s)⟩
      · injection h with h; subst h
        exact ⟨_, _, _, .inl rfl, done_nils g hH ow d (he.opd hv)⟩
    · cases h
  case h_7 t len parts =>
    split at h
    · rename_i e ps hu hps
      split at h
      · rename_i sz z hs hz
        split at h
        · rename_i hcond
          split at h
          · rename_i cs hf
            split at h
            · rename_i xs hx
              injection h with h; subst h
              have hp := evalParts_rel parts.toList ps hps (he.ops _)
              obtain ⟨v, w', G', hrun, hm⟩ := buildSlice_sound (l := .slot d) g hu hs hz hcond.1 hcond.2.1 hcond.2.2 hf hx (qs := parts.map fun (i, x) => (i, a.eval x)) (by simpa using hp)
              exact ⟨v, w', G', .inl (by simp only [execOp, Sem.run_bind, hrun, Result.andThen_ok, Sem.run_pure]), done_made g hH ow hm true⟩
            · cases h
          · cases h
        · cases h
      · cases h
    · cases h
  case h_8 t len cap =>
    split at h
    · rename_i e n c hu hn hcp
      split at h
      · rename_i n' c' i z hn' hc' hi hz
        split at h
        · rename_i hcond
          split at h
          · rename_i x hx
            injection h with h; subst h
            obtain ⟨k1, e1⟩ := natA_spec hn' (he.opd hn)
            obtain ⟨k2, e2⟩ := natA_spec hc' (he.opd hcp)
            obtain ⟨v, w', G', hrun, hm⟩ := makeSlice_sound (l := .slot d) (k1 := k1) (k2 := k2) g hu hi hz hcond.1 hcond.2.1 hcond.2.2.1 hcond.2.2.2.1 hcond.2.2.2.2 hx
            exact ⟨v, w', G', .inl (by simp only [execOp, e1, e2, Sem.run_bind, hrun, Result.andThen_ok, Sem.run_pure]), done_made g hH ow hm true⟩
          · cases h
        · cases h
      · cases h
    · cases h
  case h_9 src d' x =>
    have fin : ∀ y z, evalO env x = some y → (Go.convert src d' (a.eval x)).run P w = .ok z w → ∀ q, Rep P (G.mem w) q z → r = ⟨q, H, own, false⟩ → ∃ v w' G', ((execOp a.eval { dst := dst, op := .convert src d' x, type := ty, pos := pos, after := after, guard := guard }).run P w = .ok (.value v) w' ∨ ((execOp a.eval { dst := dst, op := .convert src d' x, type := ty, pos := pos, after := after, guard := guard }).run P w = .ok .skip w' ∧ v = undef)) ∧ Done P G w env (slotsOf a) r d v w' G' := by
      intro y z hy hz q rq hr
      subst hr
      exact ⟨z, w, G, .inl (by simp only [execOp, Sem.run_bind, hz, Result.andThen_ok, Sem.run_pure]), done_same g hH ow d rq⟩
    split at h
    · rename_i e s hus hud hx
      split at h
      · rename_i hue hsz
        injection h with h; subst h
        have ev := str_inv (he.opd hx)
        have hrun := Lib.run_convert_string_bytes (P := P) w src d' e ⟨⟨s⟩⟩ hus hud hue
        have hbel := Lib.bytesWorld_below w e ⟨⟨s⟩⟩
        have hnew := Lib.bytesWorld_at_new w e ⟨⟨s⟩⟩
        have hsize := Lib.bytesWorld_size w e ⟨⟨s⟩⟩
        have hfl : ∀ l : List UInt8, flat (l.map fun b => AV.int .u8 b.toNat) = l.map fun b => AV.int .u8 b.toNat := by
          intro l
          induction l with
          | nil => rfl
          | cons b r ih => simp only [flat, List.map_cons, List.flatMap_cons] at ih ⊢; rw [ih]; rfl
        have hlen : (s.map fun b => AV.int .u8 (b.toNat : Int)).length = s.length := by simp
        have hall : ∀ x ∈ s.map (fun b => AV.int .u8 (b.toNat : Int)), x.cells.length = 1 := by
          intro x hx; obtain ⟨b, _, rfl⟩ := List.mem_map.1 hx; rfl
        have hbs : ByteArray.size ⟨⟨s⟩⟩ = s.length := by simp [ByteArray.size]
        have hm : Made P G w (.lst e (s.map fun b => .int .u8 b.toNat) []) (.slice (some ⟨w.heap.size, 0, none⟩) s.length (grownCap w s.length 0 e)) (Lib.bytesWorld w e ⟨⟨s⟩⟩) (G.list w.heap.size (s.length * 1) none) (.slot d) ∨ True := .inr trivial
        have hrep := list_rep (P := P) g hbel hnew (e := e) (xs := s.map fun b => AV.int .u8 b.toNat) (cap := grownCap w s.length 0 e) none hsz (by omega) hall (by rw [hlen]; exact grownCap_ge w s.length 0 e) (by
          intro j hj
          rw [hfl, hlen] at hj
          have hcell := Lib.bytesWorld_cell w e ⟨⟨s⟩⟩ j (by rw [hbs]; exact hj)
          simp only [World.cell?, hnew] at hcell
          have hjs : j < (Lib.bytesCells w e ⟨⟨s⟩⟩).size := by
            rcases Nat.lt_or_ge j (Lib.bytesCells w e ⟨⟨s⟩⟩).size with h' | h'
            · exact h'
            · simp [Array.getElem?_eq_none h'] at hcell
          have e1 : (Lib.bytesCells w e ⟨⟨s⟩⟩).getD j undef = .int .u8 (s.getD j 0).toNat := by
            simp only [Option.isSome_none, Bool.false_eq_true, if_false] at hcell
            rw [Array.getD_eq_getD_getElem?, hcell]; rfl
          rw [hfl, e1]
          refine ⟨hjs, ?_, rfl⟩
          simp only [List.getD_eq_getElem?_getD, List.getElem?_map, List.getElem?_eq_getElem hj, Option.map_some, Option.getD_some]
          exact .int _ _)
        rw [hlen] at hrep
        rw [hbs] at hrun
        have gr := list_grow g hbel (s.length * 1) none
        have hf : ∀ id b, (G.list w.heap.size (s.length * 1) none).f id = some b → G.f id = some b := fun _ _ h => h
        have o' := owns_grow gr g hf ow
        refine ⟨_, _, G.list w.heap.size (s.length * 1) none, .inl (by simp only [execOp, ev, Sem.run_bind, hrun, Result.andThen_ok, Sem.run_pure]), ⟨gr.ext g, list_gok g hbel (by omega) _ _, hH.grow gr g hf, hrep, fun s _ hs => o'.slot s hs, o'.cell, fun h => (by cases h), o'.dom⟩⟩
      · cases h
    · rename_i e e' xs sp hus hud hx
      split at h
      · rename_i hue
        split at h
        · rename_i hee
          subst hee
          unfold plainRes at h
          cases hm : xs.mapM byteA with
          | none => rw [hm] at h; cases h
          | some s =>
            rw [hm] at h; simp only [Option.map_some, Option.some.injEq] at h
            exact fin _ _ hx (bytesOf_list rfl hus hue hud (he.opd hx) hm) _ (.str s) h.symm
        · cases h
      · cases h
    · rename_i e hus hud hx
      split at h
      · rename_i hue
        injection h with h
        have r0 := he.opd hx
        generalize hv : a.eval x = v at r0
        cases r0
        refine fin _ _ hx ?_ _ (.str []) h.symm
        rw [hv]
        exact run_convert_bytes_nil w src e hus hue 0 0 d' hud
      · cases h
    · rename_i y hx _ _ _
      unfold plainRes at h
      cases hm : convA P src d' y with
      | none => rw [hm] at h; cases h
      | some q =>
        rw [hm] at h; simp only [Option.map_some, Option.some.injEq] at h
        obtain ⟨z, hz, rz⟩ := conv_sound (w := w) hm (he.opd hx)
        exact fin _ _ hx hz _ rz h.symm
    · cases h
  case h_10 f args => cases hc
  case h_11 rv name args => cases hc
  case h_12 args argTypes =>
    split at h
    · rename_i s x ts tx hargs htys
      have ea : args = #[s, x] := by apply Array.ext'; simpa using hargs
      have et : argTypes = #[ts, tx] := by apply Array.ext'; simpa using htys
      subst ea; subst et
      have key : ∀ v w', (Builtin.append_ #[ts, tx] ty #[a.eval s, a.eval x]).run P w = .ok v w' → (execOp a.eval { dst := dst, op := .call { callee := .builtin .append, args := #[s, x], argTypes := #[ts, tx] }, type := ty, pos := pos, after := after, guard := guard }).run P w = .ok (.value v) w' := by
        intro v w' hl
        simp only [execOp, resolve, Sem.run_bind, Sem.run_pure, Result.andThen_ok, invoke, builtin, List.map_toArray, List.map_cons, List.map_nil, hl]
      unfold appendA at h
      split at h
      · rename_i e av bv hts hs hx
        split at h
        · rename_i ys i z hty hi hz
          have hsz : sizeT P e = some i.size := by simp [sizeT, hi]
          split at h
          · -- onto nil
            split at h
            · rename_i hcond
              injection h with h; subst h
              have r0 := he.opd hs
              generalize hsv : a.eval s = sv at r0 key
              cases r0
              obtain ⟨v', w', G', hrun, hext, hgok, hrep, hown, hblk, hf, hbs, hoo⟩ := append_sound (ty := ty) (xs := []) (l := .slot d) g hts hi hz hcond.2.2.2 hty (he.opd hx) hcond.2.2.1 (by simpa using hcond.2.1) (by simpa using hcond.1) (cells := []) (v := .slice none 0 0) (World.ownsRow_nil w 0 e i.size) (fun b hb => by simp [Value.ownBlock] at hb) (by simp) (fun j hj => by simp at hj)
              exact ⟨v', w', G', .inl (key _ _ hrun), (done_append (vb := none) g hH (fun b e => by cases e) hext hgok (fun b hlt _ => hblk b hlt (by simp [Value.ownBlock])) hf hbs hoo hrep hown (fun s _ hm => ow.slot s hm) ow.cell ow.dom).sub (fun l hl => mem_dropO hl)⟩
            · cases h
          · -- onto a list whose end is one's own
            rename_i e' xs
            split at h
            · rename_i t
              split at h
              · rename_i hcond
                obtain ⟨c1, c2, c3, c4, c5, c6⟩ := hcond
                subst c2
                injection h with h; subst h
                have r0 := he.opd hs
                simp only [evalO, Option.some.injEq] at hs
                have ho := ow.slot t (owns_iff.1 c1)
                rw [hs] at ho
                have ho' : OwnAt P (G.ren (.slot t) (.slot d)) w (.slot d) (.lst e' xs []) (slotsOf a t) := ren_own ho _
                obtain ⟨sz, cells, h1, h2, h3, h4⟩ := ho' e' xs rfl
                obtain rfl : sz = i.size := by rw [hsz] at h1; exact (Option.some.inj h1).symm
                have hev : a.eval (.tmp t) = slotsOf a t := rfl
                have hxl : (∀ x ∈ xs, x.cells.length = i.size) ∧ (∀ j, j < cells.length → Rep P (G.mem w) ((flat xs).getD j .undef) (cells.getD j undef) ∧ (cells.getD j undef).oneCell' = true) := by
                  rw [hev] at r0
                  generalize hsv : slotsOf a t = sv at r0 h3
                  cases r0 with
                  | lst _ _ _ ad cap sz b off c hsz' hz hall hcap ha hc' hr h1' =>
                    obtain rfl : i.size = sz := by rw [hsz] at hsz'; exact Option.some.inj hsz'
                    simp only [List.append_nil] at hall ha hc' hr h1'
                    refine ⟨hall, ?_⟩
                    intro j hj
                    have hfl := flat_len _ hall
                    have hcl : cells.length = xs.length * i.size := h3.1
                    have hjf : j < (flat xs).length := by omega
                    have hne : xs ≠ [] := by
                      intro e0
                      rw [e0] at hcl
                      simp at hcl
                      rw [hcl] at hj
                      simp at hj
                    obtain rfl := ha hne
                    rcases h3.2 with ⟨hv, _⟩ | ⟨b', cap', cur', hv, _, hb', hnc, hcm, hcs, htake⟩
                    · cases hv
                    · injection hv with q1 q2 q3
                      injection q1 with q1
                      injection q1 with q1 q4
                      subst q1; subst q4
                      have hcell := pm_cell (hc' j hjf)
                      have hjc : j < cur'.size := by
                        have := Nat.mul_le_mul_right i.size hnc
                        omega
                      have e1 : w.cell? ⟨b, 0 + j, none⟩ = some cur'[j] := by simp [World.cell?, hb', hjc]
                      rw [e1] at hcell; injection hcell with hcell
                      have e2 := take_getD cur' (xs.length * i.size) j cells htake (by omega) (by have := Nat.mul_le_mul_right i.size hnc; omega)
                      have e3 : cur'.getD j undef = c j := by rw [← hcell]; simp [Array.getD_eq_getD_getElem?, hjc]
                      rw [e2, e3]
                      exact ⟨hr j hjf, h1' j hjf⟩
                obtain ⟨v', w', G', hrun, hext, hgok, hrep, hown, hblk, hf, hbs, hoo⟩ := append_sound (ty := ty) (l := .slot d) (ren_gok g (.slot t) (.slot d)) hts hi hz c6 hty (he.opd hx) c5 c4 c3 h3 h4 hxl.1 hxl.2
                refine ⟨v', w', G', .inl (key _ _ hrun), ?_⟩
                have dn := done_append (env := env) (own := drop own (.slot t)) (tt := slotsOf a) (vb := (slotsOf a t).ownBlock) (ren_gok g (.slot t) (.slot d)) (ren_heap hH (.slot t) (.slot d)) (fun b e => (h4 b e).1) hext hgok hblk hf hbs hoo hrep hown
                  (fun s _ hm => ren_own_ne (ow.slot s (mem_drop.1 hm).1) (mem_drop.1 hm).2 _) (fun id off b k cs hm hf' hk hb => ren_own_ne (ow.cell id off b k cs (mem_drop.1 hm).1 hf' hk hb) (mem_drop.1 hm).2 _) (fun id off hm => ow.dom id off (mem_drop.1 hm).1)
                exact ⟨(ren_ext G _ _).trans dn.ext, dn.ok, dn.heap, dn.rep, dn.slot, dn.cell, dn.gives, dn.dom⟩
              · cases h
            · cases h
          · cases h
        · cases h
      · cases h
    · cases h
  case h_13 =>
    cases hp : pureOp P env op with
    | none => rw [hp] at h; cases h
    | some x => rw [hp] at h; injection h with h; exact pureCase x hp h.symm

theorem newAt_sound {G : Gh} {env : List (Nat × AV)} {H : List (Option Blk)} {own : List Loc} {a : Act} {o : Oper} {r : Res} {id : Nat} (g : GOk G w) (hH : HeapRel P G H w) (ow : Owns P G env H own (slotsOf a) w) (he : EnvRel P (G.mem w) env a)
    (h : newAt P o env H own id = some r) (d : Nat) :
    ∃ v w' G', (execOp a.eval o).run P w = .ok (.value v) w' ∧ Done P G w env (slotsOf a) r d v w' G' := by
  unfold newAt at h
  split at h
  case h_2 => cases h
  rename_i hhole
  have hlt : id < H.length := (List.getElem?_eq_some_iff.1 hhole).1
  have notLive : ¬ Live H id := by rintro ⟨k, hk⟩; rw [hhole] at hk; cases hk
  have hid : G.f id = none := by
    cases hf : G.f id with
    | none => rfl
    | some b => exact absurd (hH.dom _ _ hf) notLive
  have hne : ∀ i b, G.f i = some b → i ≠ id := fun i b hf e => by rw [e, hid] at hf; cases hf
  have newCase : ∀ (k : Blk) (cs : Array Value), CellsRep P (G.mem w) k.cs cs → Nat.beq k.e LOOP = false → Done P G w env (slotsOf a) ⟨.ptr id 0, H.set id (some k), own, false⟩ d (.pointer (some ⟨w.heap.size, 0, none⟩)) (w.alloc (.cells cs k.e)) (G.map id w.heap.size cs.size) := by
    intro k cs hcs hke
    have hH1 : HeapRel P G (H.set id (some k)) w := by
      refine ⟨fun i b hf => (hH.dom i b hf).set _ _, fun i b k' hf hk => ?_, fun i j b k' l h1 h2 h3 h4 n1 n2 => ?_, fun i b k' hf hk hn => ?_⟩
      · rw [List.getElem?_set_ne (hne i b hf).symm] at hk
        exact hH.blk i b k' hf hk
      · rw [List.getElem?_set_ne (hne i b h1).symm] at h3
        rw [List.getElem?_set_ne (hne j b h2).symm] at h4
        exact hH.inj i j b k' l h1 h2 h3 h4 n1 n2
      · rw [List.getElem?_set_ne (hne i b hf).symm] at hk
        exact hH.lim i b k' hf hk hn
    have ow1 : Owns P G env (H.set id (some k)) own (slotsOf a) w := ⟨ow.slot, fun i off b k' cs hm hf hk hb => by
      rw [List.getElem?_set_ne (hne i b hf).symm] at hk
      exact ow.cell i off b k' cs hm hf hk hb, fun i off hm => (ow.dom i off hm).set _ _⟩
    exact done_new (xs := k.cs) (e := k.e) g hH1 ow1 hid hcs (by rw [List.getElem?_set_self hlt]) (fun off hm => notLive (ow.dom _ off hm)) hke d
  obtain ⟨dst, op, ty, pos, after, guard⟩ := o
  simp only at h
  split at h
  · rename_i e
    split at h
    · rename_i z hz
      split at h
      case isFalse => cases h
      rename_i hke
      injection h with h; subst h
      obtain ⟨zv, hzr, hzc⟩ := zero_sound (M := G.mem w) (w := w) hz
      refine ⟨_, _, _, ?_, newCase ⟨e, z⟩ zv.cells hzc hke⟩
      simp only [execOp, Instr.alloc, Sem.run_bind, hzr, Result.andThen_ok, newVar, newRow, run_newObj, Sem.run_pure]
      rfl
    · cases h
  · rename_i e x
    split at h
    · rename_i y hy
      split at h
      · rename_i hpos
        injection h with h; subst h
        have ry := he.opd hy
        refine ⟨_, _, _, ?_, newCase ⟨e, y.cells⟩ (a.eval x).cells (cells_of ry hpos.2) hpos.1⟩
        simp only [execOp, Instr.box, Sem.run_bind, Result.andThen_ok, newVar, newRow, run_newObj, Sem.run_pure]
        rfl
      · cases h
    · cases h
  · cases h

end
end Go.Proofs.YtecdcnacjlcjoaaDoor.Am

/- The abstract machine is right: lists that are written into. -/
namespace Go.Proofs.YtecdcnacjlcjoaaDoor.Am
set_option linter.unusedVariables false
set_option linter.unusedSimpArgs false
open Go.RowKit

section
variable {P : Program} {w : World}

/-! ### a new block, however it was made -/
theorem mk_grow {G : Gh} {w' : World} (hb : Below w.heap.size w w') {id : Nat} (hid : G.f id = none) (n : Nat) : Grow G w (G.map id w.heap.size n) w' where
  below := hb
  lim := fun _ _ => rfl
  owner := fun _ _ => rfl
  bs := fun b hb => upd_ne _ _ (by omega)
  f := fun i b h => by
    show upd G.f id _ i = _
    rw [upd_ne _ _ (by rintro rfl; rw [hid] at h; cases h)]; exact h
  fnew := fun i b h => by
    change upd G.f id (some w.heap.size) i = some b at h
    by_cases hi : i = id
    · subst hi; rw [upd_same] at h; injection h with h; exact .inr ⟨hid, by omega⟩
    · rw [upd_ne _ _ hi] at h; exact .inl h
theorem mk_gok {G : Gh} (g : GOk G w) {w' : World} (hb : Below w.heap.size w w') (hs : w.heap.size < w'.heap.size) {id : Nat} (hid : G.f id = none) (n : Nat) : GOk (G.map id w.heap.size n) w' where
  fin := fun i b h => by
    change upd G.f id (some w.heap.size) i = some b at h
    by_cases hi : i = id
    · subst hi; rw [upd_same] at h; injection h with h; subst h
      obtain ⟨h1, h2, h3⟩ := g.new w.heap.size (Nat.le_refl _)
      exact ⟨hs, h2⟩
    · rw [upd_ne _ _ hi] at h
      obtain ⟨h1, h2⟩ := g.fin i b h
      exact ⟨by omega, h2⟩
  new := fun b hb => by
    obtain ⟨h1, h2, h3⟩ := g.new b (by omega)
    exact ⟨h1, h2, by show upd _ _ _ b = 0; rw [upd_ne _ _ (by omega)]; exact h3⟩
  held := ((mk_grow hb hid n).ext g).held g.held
theorem mk_heap {G : Gh} (g : GOk G w) {w' : World} (hb : Below w.heap.size w w') {id : Nat} (hid : G.f id = none) {xs : List AV} {cs : Array Value} {e : TypeId} (hn : w'.heap[w.heap.size]? = some (.cells cs e (0, 0))) (hl : xs.length ≤ cs.size)
    (hr : ∀ j, j < xs.length → Rep P (G.mem w) (xs.getD j .undef) (cs.getD j undef) ∧ (cs.getD j undef).oneCell' = true) {H : List (Option Blk)} (r : HeapRel P G H w) (hH : H[id]? = some (some ⟨e, xs⟩)) (hke : Nat.beq e LOOP = false) :
    HeapRel P (G.map id w.heap.size cs.size) H w' := by
  have split_ : ∀ i b, (G.map id w.heap.size cs.size).f i = some b → (i = id ∧ b = w.heap.size) ∨ (i ≠ id ∧ G.f i = some b) := by
    intro i b h
    change upd G.f id (some w.heap.size) i = some b at h
    by_cases hi : i = id
    · subst hi; rw [upd_same] at h; injection h with h; exact .inl ⟨rfl, h.symm⟩
    · rw [upd_ne _ _ hi] at h; exact .inr ⟨hi, h⟩
  have gr := mk_grow hb hid cs.size
  refine ⟨?_, ?_, ?_, ?_⟩
  · intro i b h
    rcases split_ i b h with ⟨rfl, rfl⟩ | ⟨_, h⟩
    · exact ⟨_, hH⟩
    · exact r.dom i b h
  · intro i b k h hk
    rcases split_ i b h with ⟨rfl, rfl⟩ | ⟨_, h⟩
    · rw [hH] at hk; injection hk with hk; injection hk with hk; subst hk
      exact BlkAt.cells ⟨cs, hn, hl, (by show cs.size = upd G.bs w.heap.size cs.size w.heap.size; rw [upd_same]), fun j hj => (gr.ext g).rep (hr j hj).1, fun j hj => (hr j hj).2⟩ hke
    · exact (r.blk i b k h hk).grow gr g (g.fin i b h).1
  · intro i j b k l h1 h2 hk hl n1 n2
    rcases split_ i b h1 with ⟨q1, q2⟩ | ⟨_, q1⟩ <;> rcases split_ j b h2 with ⟨q3, q4⟩ | ⟨_, q3⟩
    · rw [q1, q3]
    · have := (g.fin j _ q3).1; omega
    · have := (g.fin i _ q1).1; omega
    · exact r.inj i j b k l q1 q3 hk hl n1 n2
  · intro i b k h hk hn
    rcases split_ i b h with ⟨_, rfl⟩ | ⟨_, h⟩
    · exact (g.new _ (Nat.le_refl _)).1
    · exact r.lim i b k h hk hn

/-- A block that is dead. -/
theorem kill_heap {G : Gh} {H : List (Option Blk)} (r : HeapRel P G H w) {id : Nat} {k : Blk} (hk : H[id]? = some (some k)) (hke : Nat.beq k.e LOOP = false) : HeapRel P G (H.set id (some ⟨k.e, []⟩)) w := by
  have hlt : id < H.length := (List.getElem?_eq_some_iff.1 hk).1
  have hset : ∀ j q, (H.set id (some ⟨k.e, []⟩))[j]? = some (some q) → (j = id ∧ q = ⟨k.e, []⟩) ∨ (j ≠ id ∧ H[j]? = some (some q)) := by
    intro j q hj
    by_cases hji : j = id
    · subst hji
      rw [List.getElem?_set_self hlt] at hj
      injection hj with hj; injection hj with hj
      exact .inl ⟨rfl, hj.symm⟩
    · rw [List.getElem?_set_ne (fun e => hji e.symm)] at hj
      exact .inr ⟨hji, hj⟩
  refine ⟨fun i b h => (r.dom i b h).set _ _, fun i b q h hq => ?_, fun i j b q l h1 h2 h3 h4 n1 n2 => ?_, fun i b q h hq hn => ?_⟩
  · rcases hset i q hq with ⟨rfl, rfl⟩ | ⟨_, hq⟩
    · obtain ⟨ds, d1, d2, d3, d4, d5⟩ := (r.blk i b k h hk).1 hke
      exact BlkAt.cells ⟨ds, d1, Nat.zero_le _, d3, fun j hj => absurd hj (Nat.not_lt_zero _), fun j hj => absurd hj (Nat.not_lt_zero _)⟩ hke
    · exact r.blk i b q h hq
  · rcases hset i q h3 with ⟨_, rfl⟩ | ⟨_, h3⟩
    · exact absurd rfl n1
    · rcases hset j l h4 with ⟨_, rfl⟩ | ⟨_, h4⟩
      · exact absurd rfl n2
      · exact r.inj i j b q l h1 h2 h3 h4 n1 n2
  · rcases hset i q hq with ⟨_, rfl⟩ | ⟨_, hq⟩
    · exact absurd rfl hn
    · exact r.lim i b q h hq hn
theorem kill_owns {G : Gh} {env : List (Nat × AV)} {H : List (Option Blk)} {own : List Loc} {t : Nat → Value} (o : Owns P G env H own t w) {id : Nat} {k : Blk} (hk : H[id]? = some (some k)) : Owns P G env (H.set id (some ⟨k.e, []⟩)) own t w := by
  have hlt : id < H.length := (List.getElem?_eq_some_iff.1 hk).1
  refine ⟨o.slot, fun i off b q cs hm hf hq hb => ?_, fun i off hm => (o.dom i off hm).set _ _⟩
  by_cases hji : i = id
  · subst hji
    rw [List.getElem?_set_self hlt] at hq
    injection hq with hq; injection hq with hq
    subst hq
    intro e xs hx
    cases hx
  · rw [List.getElem?_set_ne (fun e => hji e.symm)] at hq
    exact o.cell i off b q cs hm hf hq hb
theorem more_heap {G : Gh} {H : List (Option Blk)} (r : HeapRel P G H w) (E : List (Option Blk)) : HeapRel P G (H ++ E) w := by
  refine ⟨fun i b hf => (r.dom i b hf).append _, fun i b k hf hk => ?_, fun i j b k l h1 h2 h3 h4 n1 n2 => ?_, fun i b k hf hk hn => ?_⟩
  · have := (r.dom i b hf).lt
    rw [List.getElem?_append_left this] at hk
    exact r.blk i b k hf hk
  · have q1 := (r.dom i b h1).lt
    have q2 := (r.dom j b h2).lt
    rw [List.getElem?_append_left q1] at h3
    rw [List.getElem?_append_left q2] at h4
    exact r.inj i j b k l h1 h2 h3 h4 n1 n2
  · have := (r.dom i b hf).lt
    rw [List.getElem?_append_left this] at hk
    exact r.lim i b k hf hk hn
theorem more_owns {G : Gh} {env : List (Nat × AV)} {H : List (Option Blk)} {own : List Loc} {t : Nat → Value} (r : HeapRel P G H w) (o : Owns P G env H own t w) (E : List (Option Blk)) : Owns P G env (H ++ E) own t w :=
  ⟨o.slot, fun i off b k cs hm hf hk hb => by
      have := (r.dom i b hf).lt
      rw [List.getElem?_append_left this] at hk
      exact o.cell i off b k cs hm hf hk hb, fun i off hm => (o.dom i off hm).append _⟩

/-- A list in a new block of the machine's. -/
theorem done_sl {G : Gh} {env : List (Nat × AV)} {H : List (Option Blk)} {own : List Loc} {t : Nat → Value} (g : GOk G w) (h : HeapRel P G H w) (o : Owns P G env H own t w) {w' : World} (hbel : Below w.heap.size w w') {xs : List AV} {cs : Array Value} {e : TypeId} {len cap sz : Nat}
    (hn : w'.heap[w.heap.size]? = some (.cells cs e (0, 0))) (hl : xs.length ≤ cs.size) (hr : ∀ j, j < xs.length → Rep P (G.mem w) (xs.getD j .undef) (cs.getD j undef) ∧ (cs.getD j undef).oneCell' = true)
    (hs : sizeT P e = some sz) (hz : 0 < sz) (hcap : cap * sz ≤ cs.size) (hlen : len ≤ cap) (hke : Nat.beq e LOOP = false) (d : Nat) :
    Done P G w env t ⟨.sl e H.length 0 len, H ++ [some ⟨e, xs⟩], own, false⟩ d (.slice (some ⟨w.heap.size, 0, none⟩) len cap) w' (G.map H.length w.heap.size cs.size) := by
  have hid : G.f H.length = none := by
    cases hf : G.f H.length with
    | none => rfl
    | some b => have := (h.dom _ _ hf).lt; omega
  have hsz : w.heap.size < w'.heap.size := (Array.getElem?_eq_some_iff.1 hn).1
  have gr := mk_grow hbel hid cs.size
  have h1 := more_heap h [some ⟨e, xs⟩]
  have o1 := more_owns h o [some ⟨e, xs⟩]
  refine ⟨gr.ext g, mk_gok g hbel hsz hid _, mk_heap g hbel hid hn hl hr h1 (by rw [List.getElem?_append_right (Nat.le_refl _)]; simp) hke, ?_, fun s _ hs' => (o1.slot s hs').grow gr, ?_, fun h => (by cases h), o1.dom⟩
  · refine .sl e _ 0 len _ cap sz (upd_same _ _ _) hs hz ?_ hlen
    show 0 + cap * sz ≤ upd G.bs w.heap.size cs.size w.heap.size
    rw [upd_same]; omega
  · intro id' off b k cs' hm hf hk hb
    by_cases hi : id' = H.length
    · have := (o.dom id' off hm).lt; omega
    · change upd G.f H.length (some w.heap.size) id' = some b at hf
      rw [upd_ne _ _ hi] at hf
      have hlt := (g.fin id' b hf).1
      rw [gr.below.block b hlt] at hb
      exact (o1.cell id' off b k cs' hm hf hk hb).grow gr

/-- Another name of a block whose old one is dead; it is written behind its end. -/
theorem done_alias {G : Gh} {env : List (Nat × AV)} {H : List (Option Blk)} {own : List Loc} {t : Nat → Value} (g : GOk G w) (h : HeapRel P G H w) (o : Owns P G env H own t w) {id b : Nat} (hf : G.f id = some b) {k : Blk} (hk : H[id]? = some (some k)) (hkne : k.cs ≠ []) {xs : List AV} {es : Array Value} {len cap sz : Nat}
    (hes : es.size = G.bs b) (hl : xs.length ≤ es.size) (hr : ∀ j, j < xs.length → Rep P (G.mem w) (xs.getD j .undef) (es.getD j undef) ∧ (es.getD j undef).oneCell' = true)
    (hs : sizeT P k.e = some sz) (hz : 0 < sz) (hcap : cap * sz ≤ G.bs b) (hlen : len ≤ cap) (hke : Nat.beq k.e LOOP = false) (d : Nat) :
    Done P G w env t ⟨.sl k.e H.length 0 len, H.set id (some ⟨k.e, []⟩) ++ [some ⟨k.e, xs⟩], own, false⟩ d (.slice (some ⟨b, 0, none⟩) len cap) (w.setRow b es) { G with f := upd G.f H.length (some b) } := by
  have hid : G.f H.length = none := by
    cases hf : G.f H.length with
    | none => rfl
    | some b => have := (h.dom _ _ hf).lt; omega
  obtain ⟨ds, hd, hsz, hbs, hrep, hone⟩ := (h.blk id b k hf hk).1 hke
  have hlt : id < H.length := (List.getElem?_eq_some_iff.1 hk).1
  have hext0 := store_ext g hf (h.lim id b k hf hk hkne) es
  have hgok0 := store_gok g b es hext0
  have hnew : (w.setRow b es).heap[b]? = some (.cells es k.e (0, 0)) := setRow_heap w b ds es k.e (0, 0) hd
  have hoth : ∀ q, q ≠ b → (w.setRow b es).heap[q]? = w.heap[q]? := fun q hq => setRow_other w b q es hq
  have hfG : ∀ i q, upd G.f H.length (some b) i = some q → (i = H.length ∧ q = b) ∨ (i ≠ H.length ∧ G.f i = some q) := by
    intro i q hi
    by_cases hh : i = H.length
    · subst hh; rw [upd_same] at hi; injection hi with hi; exact .inl ⟨rfl, hi.symm⟩
    · rw [upd_ne _ _ hh] at hi; exact .inr ⟨hh, hi⟩
  have hext : Ext G w { G with f := upd G.f H.length (some b) } (w.setRow b es) := by
    refine ⟨hext0.os, hext0.tape, hext0.output, hext0.size, hext0.prot, fun i q hi => ?_, hext0.bs, fun q hq hn => ?_⟩
    · show upd G.f H.length (some b) i = some q
      rw [upd_ne _ _ (by rintro rfl; rw [hid] at hi; cases hi)]; exact hi
    · obtain ⟨a1, a2, a3⟩ := hext0.foreign q hq hn
      refine ⟨a1, a2, ?_⟩
      rintro (⟨i, hi⟩ | ho)
      · rcases hfG i q hi with ⟨_, rfl⟩ | ⟨_, hi⟩
        · exact hn (.inl ⟨id, hf⟩)
        · exact hn (.inl ⟨i, hi⟩)
      · exact hn (.inr ho)
  have hgok : GOk { G with f := upd G.f H.length (some b) } (w.setRow b es) := by
    refine ⟨fun i q hi => ?_, hgok0.new, hext.held g.held⟩
    rcases hfG i q hi with ⟨_, rfl⟩ | ⟨_, hi⟩
    · exact hgok0.fin id q hf
    · exact hgok0.fin i q hi
  -- the blocks behind it
  have hH : ∀ i q, (H.set id (some ⟨k.e, []⟩) ++ [some ⟨k.e, xs⟩])[i]? = some (some q) → (i = H.length ∧ q = ⟨k.e, xs⟩) ∨ (i ≠ H.length ∧ i = id ∧ q = ⟨k.e, []⟩) ∨ (i ≠ H.length ∧ i ≠ id ∧ H[i]? = some (some q)) := by
    intro i q hi
    have hlen' : (H.set id (some ⟨k.e, []⟩)).length = H.length := List.length_set
    by_cases h1 : i < H.length
    · rw [List.getElem?_append_left (by rw [hlen']; exact h1)] at hi
      by_cases h2 : i = id
      · subst h2
        rw [List.getElem?_set_self hlt] at hi
        injection hi with hi; injection hi with hi
        exact .inr (.inl ⟨by omega, rfl, hi.symm⟩)
      · rw [List.getElem?_set_ne (fun e => h2 e.symm)] at hi
        exact .inr (.inr ⟨by omega, h2, hi⟩)
    · have h3 : i = H.length := by
        have := (List.getElem?_eq_some_iff.1 hi).1
        rw [List.length_append, hlen'] at this
        simp only [List.length_cons, List.length_nil] at this
        omega
      subst h3
      rw [List.getElem?_append_right (by rw [hlen']; exact Nat.le_refl _), hlen', Nat.sub_self] at hi
      injection hi with hi; injection hi with hi
      exact .inl ⟨rfl, hi.symm⟩
  have hdead : ∀ i q k', G.f i = some q → H[i]? = some (some k') → i ≠ id → k'.cs ≠ [] → q ≠ b := by
    intro i q k' h1 h2 h3 h4 e
    subst e
    exact h3 (h.inj i id q k' k h1 hf h2 hk h4 hkne)
  have hheap : HeapRel P { G with f := upd G.f H.length (some b) } (H.set id (some ⟨k.e, []⟩) ++ [some ⟨k.e, xs⟩]) (w.setRow b es) := by
    have hnil : ∀ k' : Blk, k'.cs = [] → k'.e = k.e → BlkAt P ((Gh.mk G.lim (upd G.f H.length (some b)) G.bs G.owner).mem (w.setRow b es)) (w.setRow b es) b k' := by
      intro k' h1 h2
      exact BlkAt.cells ⟨es, by rw [h2]; exact hnew, by rw [h1]; exact Nat.zero_le _, hes, fun j hj => by rw [h1] at hj; exact absurd hj (Nat.not_lt_zero _), fun j hj => by rw [h1] at hj; exact absurd hj (Nat.not_lt_zero _)⟩ (by rw [h2]; exact hke)
    refine ⟨?_, ?_, ?_, ?_⟩
    · intro i q hi
      rcases hfG i q hi with ⟨rfl, rfl⟩ | ⟨_, hi⟩
      · refine ⟨⟨k.e, xs⟩, ?_⟩
        rw [List.getElem?_append_right (by rw [List.length_set]; exact Nat.le_refl _), List.length_set, Nat.sub_self]; rfl
      · exact ((h.dom i q hi).set _ _).append _
    · intro i q k' hi hk'
      rcases hfG i q hi with ⟨rfl, rfl⟩ | ⟨hne, hi2⟩
      · rcases hH _ k' hk' with ⟨_, rfl⟩ | ⟨hn, _⟩ | ⟨hn, _⟩
        · exact BlkAt.cells ⟨es, hnew, hl, hes, fun j hj => hext.rep (hr j hj).1, fun j hj => (hr j hj).2⟩ hke
        · exact absurd rfl hn
        · exact absurd rfl hn
      · rcases hH _ k' hk' with ⟨hn, _⟩ | ⟨_, rfl, rfl⟩ | ⟨_, hni, hk'⟩
        · exact absurd hn hne
        · rw [hf] at hi2; injection hi2 with hi2; subst hi2
          exact hnil _ rfl rfl
        · have hB := h.blk i q k' hi2 hk'
          by_cases hqb : q = b
          · subst hqb
            have hn : k'.cs = [] := by
              rcases List.eq_nil_or_concat k'.cs with h | ⟨_, _, h⟩
              · exact h
              · exact absurd rfl (hdead i q k' hi2 hk' hni (by rw [h]; simp))
            obtain ⟨ds', q1, q2, q3, q4, q5⟩ := hB.1 (hB.cs_nil hn)
            rw [hd] at q1; injection q1 with q1; injection q1 with q1 q6
            exact hnil k' hn q6.symm
          · exact hB.to (hoth q hqb) rfl hext.mem
    · intro i j q k1 k2 h1 h2 h3 h4 n1 n2
      rcases hH i k1 h3 with ⟨a1, _⟩ | ⟨_, _, rfl⟩ | ⟨a1, a2, a3⟩
      · rcases hH j k2 h4 with ⟨b1, _⟩ | ⟨_, _, rfl⟩ | ⟨b1, b2, b3⟩
        · rw [a1, b1]
        · exact absurd rfl n2
        · exfalso
          rcases hfG i q h1 with ⟨_, rfl⟩ | ⟨hn, _⟩
          · rcases hfG j q h2 with ⟨hn, _⟩ | ⟨_, h2⟩
            · exact b1 hn
            · exact hdead j q k2 h2 b3 b2 n2 rfl
          · exact hn a1
      · exact absurd rfl n1
      · rcases hH j k2 h4 with ⟨b1, _⟩ | ⟨_, _, rfl⟩ | ⟨b1, b2, b3⟩
        · exfalso
          rcases hfG j q h2 with ⟨_, rfl⟩ | ⟨hn, _⟩
          · rcases hfG i q h1 with ⟨hn, _⟩ | ⟨_, h1⟩
            · exact a1 hn
            · exact hdead i q k1 h1 a3 a2 n1 rfl
          · exact hn b1
        · exact absurd rfl n2
        · rcases hfG i q h1 with ⟨hn, _⟩ | ⟨_, h1⟩
          · exact absurd hn a1
          · rcases hfG j q h2 with ⟨hn, _⟩ | ⟨_, h2⟩
            · exact absurd hn b1
            · exact h.inj i j q k1 k2 h1 h2 a3 b3 n1 n2
    · intro i q k' hi hk' hn
      rcases hfG i q hi with ⟨_, rfl⟩ | ⟨hne, hi2⟩
      · exact h.lim id q k hf hk hkne
      · rcases hH _ k' hk' with ⟨hn', _⟩ | ⟨_, _, rfl⟩ | ⟨_, hni, hk'⟩
        · exact absurd hn' hne
        · exact absurd rfl hn
        · exact h.lim i q k' hi2 hk' hn
  have hkeep : ∀ l y u, OwnAt P G w l y u → OwnAt P { G with f := upd G.f H.length (some b) } (w.setRow b es) l y u := fun l y u r => own_setRow g hf es l y u r
  refine ⟨hext, hgok, hheap, .sl k.e _ 0 len b cap sz (upd_same _ _ _) hs hz (by show 0 + cap * sz ≤ G.bs b; omega) hlen, fun s _ hm => hkeep _ _ _ (o.slot s hm), ?_, fun h => (by cases h), fun i off hm => ((o.dom i off hm).set _ _).append _⟩
  intro i off q k' cs' hm hf' hk' hb'
  rcases hfG i q hf' with ⟨rfl, rfl⟩ | ⟨_, hf'⟩
  · have := (o.dom _ off hm).lt; omega
  · rcases hH i k' hk' with ⟨hn, _⟩ | ⟨_, _, rfl⟩ | ⟨_, hni, hk'⟩
    · have := (o.dom _ off hm).lt; omega
    · intro e xs hx; cases hx
    · by_cases hke : k'.cs = []
      · rw [hke]; intro e xs hx; cases hx
      · have hqb := hdead i q k' hf' hk' hni hke
        rw [hoth q hqb] at hb'
        exact hkeep _ _ _ (o.cell i off q k' cs' hm hf' hk' hb')

/-- Lists that are written into, made. -/
theorem newSl_sound {G : Gh} {env : List (Nat × AV)} {H : List (Option Blk)} {own : List Loc} {a : Act} {e : TypeId} {o : Oper} {r : Res} (g : GOk G w) (hH : HeapRel P G H w) (ow : Owns P G env H own (slotsOf a) w) (he : EnvRel P (G.mem w) env a)
    (h : newSl P e o.op env H own = some r) (d : Nat) :
    ∃ v w' G', (execOp a.eval o).run P w = .ok (.value v) w' ∧ Done P G w env (slotsOf a) r d v w' G' := by
  obtain ⟨dst, op, ty, pos, after, guard⟩ := o
  simp only at h
  unfold newSl at h
  split at h
  · rename_i t len cap
    split at h
    · rename_i e' n c hu hn hcp
      split at h
      · rename_i n' c' i z hn' hc' hi hz
        split at h
        · rename_i hcond
          obtain ⟨hke, rfl, hnc, hby, hc, hp, hzl⟩ := hcond
          injection h with h; subst h
          obtain ⟨k1, e1⟩ := natA_spec hn' (he.opd hn)
          obtain ⟨k2, e2⟩ := natA_spec hc' (he.opd hcp)
          have hs : sizeT P e' = some i.size := by simp [sizeT, hi]
          obtain ⟨zv, hzr, hzc⟩ := zero_sound (M := G.mem w) (w := w) hz
          have hzz : i.zero = some zv := by
            simp only [zeroValue, Sem.run_bind, run_typeInfo' hi, Result.andThen_ok] at hzr
            cases hiz : i.zero with
            | none => rw [hiz] at hzr; simp at hzr
            | some q => rw [hiz] at hzr; simp at hzr; rw [hzr]
          have hrun := run_make (P := P) w t e' i zv hu hi hzz k1 k2 n' c' (by omega) (by omega) (by
            have : ((i.bytes * c' : Nat) : Int) ≤ 281474976710656 := by rw [Nat.mul_comm]; omega
            rwa [Int.natCast_mul] at this) (by omega)
          simp only [Int.toNat_natCast] at hrun
          have hmr := made_rep hzc hzl hp c'
          have hml : (rep c' z).length = c' * i.size := rep_length hzl c'
          refine ⟨_, _, _, ?_, done_sl (sz := i.size) (cap := c') g hH ow (w' := w.alloc (.cells (madeCells zv.cells (c' * i.size)) e')) ((Below.refl _ _).alloc (Nat.le_refl _) _) (xs := rep c' z) (alloc_heap_new w _) (by rw [hml, size_madeCells]; exact Nat.le_refl _)
            (fun j hj => ⟨hmr.at_ j hj, hmr.one j hj⟩) hs hp (by rw [size_madeCells]; exact Nat.le_refl _) hnc hke d⟩
          simp only [execOp, e1, e2, Sem.run_bind, hrun, Result.andThen_ok, Sem.run_pure]
        · cases h
      · cases h
    · cases h
  · rename_i args argTypes
    split at h
    · rename_i s x ts tx hargs htys
      split at h
      · rename_i e' av b hts hs hx
        split at h
        · rename_i ys i z htl hi hz
          have ea : args = #[s, x] := by apply Array.ext'; simpa using hargs
          have et : argTypes = #[ts, tx] := by apply Array.ext'; simpa using htys
          subst ea; subst et
          have key : ∀ v w', (Builtin.append_ #[ts, tx] ty #[a.eval s, a.eval x]).run P w = .ok v w' → (execOp a.eval { dst := dst, op := .call { callee := .builtin .append, args := #[s, x], argTypes := #[ts, tx] }, type := ty, pos := pos, after := after, guard := guard }).run P w = .ok (.value v) w' := by
            intro v w' hl
            simp only [execOp, resolve, Sem.run_bind, Sem.run_pure, Result.andThen_ok, invoke, builtin, List.map_toArray, List.map_cons, List.map_nil, hl]
          obtain ⟨zv, hzr, hzc⟩ := zero_sound (M := G.mem w) (w := w) hz
          have hzz : i.zero = some zv := by
            simp only [zeroValue, Sem.run_bind, run_typeInfo' hi, Result.andThen_ok] at hzr
            cases hiz : i.zero with
            | none => rw [hiz] at hzr; simp at hzr
            | some q => rw [hiz] at hzr; simp at hzr; rw [hzr]
          have hsz : sizeT P e = some i.size := by simp [sizeT, hi]
          split at h
          · -- nil
            split at h
            · rename_i hcond
              obtain ⟨hke, rfl, hpos, hby, h63, hp, hzl⟩ := hcond
              injection h with h; subst h
              obtain ⟨du, news, hu, hdu, hlen, hfc, hnl, hally, hnr⟩ := tail_cells rfl htl (he.opd hx) hts hsz hp
              have hfy := flat_len _ hally
              have hv : a.eval s = .slice none 0 0 := by
                have := he.opd hs
                generalize a.eval s = q at this
                cases this; rfl
              have hrun := app_grow (ty := ty) hts hu hdu hi hzz (a := none) (n := 0) (cap := 0) (olds := []) hlen (hfc w.drew rfl) rfl (by omega) (by omega) (by rw [Nat.zero_add]; exact hby)
              rw [← hv] at hrun
              have hge := grownCap_ge w (0 + ys.length) 0 e'
              obtain ⟨C, hC⟩ : ∃ C, C = grownCap w (0 + ys.length) 0 e' := ⟨_, rfl⟩
              rw [← hC] at hrun hge
              obtain ⟨cs, hcs⟩ : ∃ cs, cs = ([] ++ news ++ (Builtin.zeroCells zv.cells (C - (0 + ys.length))).toList).toArray := ⟨_, rfl⟩
              rw [← hcs] at hrun
              have hzs : zv.cells.size = i.size := by rw [hzc.size, hzl]
              have hsize : cs.size = C * i.size := by
                rw [hcs]
                simp only [List.nil_append, List.size_toArray, List.length_append, Array.length_toList, size_zeroCells, hzs, hnl, ← Nat.add_mul]
                congr 1; omega
              have hle : ys.length * i.size ≤ C * i.size := Nat.mul_le_mul_right _ (by omega)
              have hget : ∀ j, j < ys.length * i.size → cs.getD j undef = news.getD j undef := by
                intro j hj
                rw [hcs]
                simp only [List.nil_append, Array.getD_eq_getD_getElem?, List.getElem?_toArray, List.getD_eq_getElem?_getD]
                rw [List.getElem?_append_left (by omega)]
              have hd := done_sl (sz := i.size) (cap := C) (len := ys.length) g hH ow (w' := w.drew.alloc (.cells cs e')) (((Below.refl _ _).drew).alloc (Nat.le_refl _) _) (xs := flat ys) (heap_alloc_new w.drew _) (by rw [hfy, hsize]; exact hle)
                (fun j hj => by rw [hfy] at hj; rw [hget j hj]; exact hnr j (by rw [hnl]; exact hj)) hsz hp (by rw [hsize]; exact Nat.le_refl _) (by omega) hke d
              rw [Nat.zero_add] at hrun
              exact ⟨_, _, _, key _ _ hrun, hd⟩
            · cases h
          · -- a list that is written into
            rename_i e'' id off len
            split at h
            · rename_i k hk
              split at h
              · rename_i hcond
                obtain ⟨hke, h1, h2, h3, h4, hkpos, hlk, hby, h63, hp, hzl⟩ := hcond
                subst h1; subst h2; subst h4
                injection h with h; subst h
                obtain ⟨du, news, hu, hdu, hlen, hfc, hnl, hally, hnr⟩ := tail_cells rfl htl (he.opd hx) hts hsz hp
                have hfy := flat_len _ hally
                have hkne : k.cs ≠ [] := by intro e; rw [e] at hkpos; exact absurd hkpos (Nat.not_lt_zero _)
                have hone : ∀ u ∈ news, u.oneCell' = true := by
                  intro q hq
                  obtain ⟨j, hj, rfl⟩ := List.mem_iff_getElem.1 hq
                  have := (hnr j hj).2
                  simpa [List.getD_eq_getElem?_getD, List.getElem?_eq_getElem hj] using this
                have rs := he.opd hs
                generalize hvv : a.eval s = q at rs key
                cases rs with
                | sl _ _ _ _ b cap sz hf hsz' hz' hb hl =>
                obtain rfl : i.size = sz := by rw [hsz] at hsz'; exact Option.some.inj hsz'
                have hf : G.f id = some b := hf
                obtain ⟨ds, hd, hds, hbs, hrep, hone0⟩ := (hH.blk id b k hf hk).1 (by rw [h3]; exact hke)
                rw [h3] at hd
                have hb : 0 + cap * i.size ≤ G.bs b := hb
                have hbs : ds.size = G.bs b := hbs
                obtain ⟨olds, ho⟩ : ∃ olds, olds = ds.toList.take (len * i.size) := ⟨_, rfl⟩
                have hlc : len * i.size ≤ cap * i.size := Nat.mul_le_mul_right _ hl
                have hol : olds.length = len * i.size := by rw [ho, List.length_take, Array.length_toList]; omega
                have hog : ∀ j, j < len * i.size → olds.getD j undef = ds.getD j undef := by
                  intro j hj
                  rw [ho]
                  simp only [List.getD_eq_getElem?_getD, List.getElem?_take, if_pos hj, Array.getElem?_toList, Array.getD_eq_getD_getElem?]
                have htk : (k.cs.take (len * i.size)).length = len * i.size := by rw [List.length_take]; omega
                have hxl : (k.cs.take (len * i.size) ++ flat ys).length = (len + ys.length) * i.size := by rw [List.length_append, htk, hfy, Nat.add_mul]
                have hcat : ∀ j, j < (len + ys.length) * i.size → Rep P (G.mem w) ((k.cs.take (len * i.size) ++ flat ys).getD j .undef) ((olds ++ news).getD j undef) ∧ ((olds ++ news).getD j undef).oneCell' = true := by
                  intro j hj
                  rw [Nat.add_mul] at hj
                  by_cases hlt : j < len * i.size
                  · have e1 : (k.cs.take (len * i.size) ++ flat ys).getD j .undef = k.cs.getD j .undef := by
                      simp only [List.getD_eq_getElem?_getD]
                      rw [List.getElem?_append_left (by omega), List.getElem?_take, if_pos hlt]
                    have e2 : (olds ++ news).getD j undef = ds.getD j undef := by
                      rw [← hog j hlt]
                      simp only [List.getD_eq_getElem?_getD]
                      rw [List.getElem?_append_left (by omega)]
                    rw [e1, e2]
                    exact ⟨hrep j (by omega), hone0 j (by omega)⟩
                  · have := hnr (j - len * i.size) (by omega)
                    simp only [List.getD_eq_getElem?_getD] at this ⊢
                    rw [List.getElem?_append_right (by omega), List.getElem?_append_right (by omega), htk, hol]
                    exact this
                by_cases hroom : len + ys.length ≤ cap
                · have hle : (len + ys.length) * i.size ≤ cap * i.size := Nat.mul_le_mul_right _ hroom
                  have hfit : len * i.size + news.length ≤ ds.size := by rw [hnl, ← Nat.add_mul]; omega
                  have hrun := app_room (ty := ty) hts hu hdu hi (n := len) hd hlen (hfc w rfl) hone hroom hfit
                  rw [← ho] at hrun
                  obtain ⟨es, hes⟩ : ∃ es, es = (olds ++ news ++ ds.toList.drop (len * i.size + news.length)).toArray := ⟨_, rfl⟩
                  rw [← hes] at hrun
                  have hess : es.size = ds.size := by
                    rw [hes]
                    simp only [List.size_toArray, List.length_append, List.length_drop, Array.length_toList, hol]
                    omega
                  have hget : ∀ j, j < (len + ys.length) * i.size → es.getD j undef = (olds ++ news).getD j undef := by
                    intro j hj
                    rw [hes]
                    simp only [Array.getD_eq_getD_getElem?, List.getElem?_toArray, List.getD_eq_getElem?_getD]
                    rw [List.getElem?_append_left (by rw [List.length_append, hol, hnl, ← Nat.add_mul]; exact hj)]
                  have hdn := done_alias (sz := i.size) (cap := cap) (len := len + ys.length) (xs := k.cs.take (len * i.size) ++ flat ys) (es := es) g hH ow hf hk hkne (by rw [hess]; exact hbs) (by rw [hxl, hess]; omega) (fun j hj => by rw [hxl] at hj; rw [hget j hj]; exact hcat j hj) (by rw [h3]; exact hsz) hp (by omega) hroom (by rw [h3]; exact hke) d
                  rw [h3] at hdn
                  exact ⟨_, _, _, key _ _ hrun, hdn⟩
                · have hfo : (Builtin.firstCells i.size len (.slice (some ⟨b, 0, none⟩) len cap)).run P w.drew = .ok olds.toArray w.drew := by
                    refine run_firstCells_some w.drew i.size len _ _ _ olds hol ?_
                    intro j q hq
                    have hj : j < len * i.size := by rw [← hol]; exact (List.getElem?_eq_some_iff.1 hq).1
                    rw [add_addr, Nat.zero_add]
                    have hjd : j < ds.size := by omega
                    have e1 : w.cell? ⟨b, j, none⟩ = some ds[j] := by simp [World.cell?, hd, hjd]
                    show w.cell? ⟨b, j, none⟩ = some q
                    rw [e1, ← hq, ho, List.getElem?_take, if_pos hj, Array.getElem?_toList, Array.getElem?_eq_getElem hjd]
                  have hrun := app_grow (ty := ty) hts hu hdu hi hzz (a := some ⟨b, 0, none⟩) (n := len) (cap := cap) (olds := olds) hlen (hfc w.drew rfl) hfo (by omega) h63 hby
                  have hge := grownCap_ge w (len + ys.length) cap e''
                  obtain ⟨C, hC⟩ : ∃ C, C = grownCap w (len + ys.length) cap e'' := ⟨_, rfl⟩
                  rw [← hC] at hrun hge
                  obtain ⟨cs, hcs⟩ : ∃ cs, cs = (olds ++ news ++ (Builtin.zeroCells zv.cells (C - (len + ys.length))).toList).toArray := ⟨_, rfl⟩
                  rw [← hcs] at hrun
                  have hzs : zv.cells.size = i.size := by rw [hzc.size, hzl]
                  have hsize : cs.size = C * i.size := by
                    rw [hcs]
                    simp only [List.size_toArray, List.length_append, Array.length_toList, size_zeroCells, hzs, hnl, hol, ← Nat.add_mul]
                    congr 1; omega
                  have hle : (len + ys.length) * i.size ≤ C * i.size := Nat.mul_le_mul_right _ hge
                  have hget : ∀ j, j < (len + ys.length) * i.size → cs.getD j undef = (olds ++ news).getD j undef := by
                    intro j hj
                    rw [hcs]
                    simp only [Array.getD_eq_getD_getElem?, List.getElem?_toArray, List.getD_eq_getElem?_getD]
                    rw [List.getElem?_append_left (by rw [List.length_append, hol, hnl, ← Nat.add_mul]; exact hj)]
                  have hk1 := kill_heap hH hk (by rw [h3]; exact hke)
                  have ow1 := kill_owns ow hk
                  rw [h3] at hk1 ow1
                  have hdn := done_sl (sz := i.size) (cap := C) (len := len + ys.length) g hk1 ow1 (w' := w.drew.alloc (.cells cs e'')) (((Below.refl _ _).drew).alloc (Nat.le_refl _) _) (xs := k.cs.take (len * i.size) ++ flat ys) (heap_alloc_new w.drew _) (by rw [hxl, hsize]; exact hle)
                    (fun j hj => by rw [hxl] at hj; rw [hget j hj]; exact hcat j hj) hsz hp (by rw [hsize]; exact Nat.le_refl _) hge hke d
                  rw [List.length_set] at hdn
                  exact ⟨_, _, _, key _ _ hrun, hdn⟩
              · cases h
            · cases h
          · cases h
        · cases h
      · cases h
    · cases h
  · cases h

end
end Go.Proofs.YtecdcnacjlcjoaaDoor.Am

/- The abstract machine is right, thirteenth part: an operation puts its value; calls. -/
namespace Go.Proofs.YtecdcnacjlcjoaaDoor.Am
set_option linter.unusedVariables false
set_option linter.unusedSimpArgs false
open Go.RowKit

section
variable {P : Program} {w : World} {B : Nat}

/-- The marks of loops over functions among a frame's deferred calls: their blocks are empty. -/
def mark (r : Nat) : Deferred := { target := .collected r, args := #[] }
def MarksOk (B : Nat) (G : Gh) (w : World) (ds : List Deferred) : Prop :=
  B ≤ w.heap.size ∧ ∃ rs : List Nat, ds = rs.map mark ∧ rs.Nodup ∧ ∀ r ∈ rs, B ≤ r ∧ w.heap[r]? = some (.deferred (some [])) ∧ ¬ Foot G r
theorem MarksOk.nil {B : Nat} (G : Gh) {w : World} (h : B ≤ w.heap.size) : MarksOk B G w [] := ⟨h, [], rfl, List.nodup_nil, fun r h => by cases h⟩
theorem MarksOk.ext {B : Nat} {G G' : Gh} {w w' : World} {ds : List Deferred} (h : MarksOk B G w ds) (e : Ext G w G' w') : MarksOk B G' w' ds := by
  obtain ⟨h0, rs, h1, h2, h3⟩ := h
  refine ⟨Nat.le_trans h0 e.size, rs, h1, h2, fun r hr => ?_⟩
  obtain ⟨a, b, c⟩ := h3 r hr
  obtain ⟨d, _, f⟩ := e.foreign r (Array.getElem?_eq_some_iff.1 b).1 c
  exact ⟨a, d.trans b, f⟩

structure Rel (P : Program) (B : Nat) (G : Gh) (nt : Nat) (st : St) (a : Act) (w : World) : Prop where
  ok : GOk G w
  heap : HeapRel P G st.H w
  own : Owns P G st.env st.H st.own (slotsOf a) w
  env : EnvRel P (G.mem w) st.env a
  size : a.tmps.size = nt
  defers : MarksOk B G w a.defers

theorem fresh_slot (l : List Loc) : ∃ d, Loc.slot d ∉ l := by
  have : ∀ l : List Loc, ∃ d, ∀ s, Loc.slot s ∈ l → s < d := by
    intro l
    induction l with
    | nil => exact ⟨0, fun s h => by cases h⟩
    | cons x r ih =>
      obtain ⟨d, hd⟩ := ih
      cases x with
      | slot s => exact ⟨max d (s + 1), fun q h => by
          rcases List.mem_cons.1 h with h | h
          · injection h with h; omega
          · have := hd q h; omega⟩
      | cell i o => exact ⟨d, fun q h => by
          rcases List.mem_cons.1 h with h | h
          · cases h
          · exact hd q h⟩
  obtain ⟨d, hd⟩ := this l
  exact ⟨d, fun h => by have := hd d h; omega⟩

theorem slots_put {a : Act} {d : Nat} {v : Value} (h : d < a.tmps.size) (s : Nat) : slotsOf (a.put (some d) v) s = if s = d then v else slotsOf a s := by
  unfold slotsOf Act.put
  simp only [Array.getD_eq_getD_getElem?]
  by_cases hs : s = d
  · subst hs; rw [if_pos rfl, Array.getElem?_setIfInBounds_self_of_lt h]; rfl
  · rw [if_neg hs, Array.getElem?_setIfInBounds_ne (fun e => hs e.symm)]
theorem look_cons (d : Nat) (x : AV) (env : List (Nat × AV)) (s : Nat) : look ((d, x) :: env) s = if s = d then x else look env s := by
  simp only [look]
  by_cases h : s = d
  · subst h; simp
  · rw [if_neg h]
    have : Nat.beq d s = false := by
      cases hb : Nat.beq d s with
      | false => rfl
      | true => exact absurd (Nat.eq_of_beq_eq_true hb).symm h
    rw [this]; rfl

theorem Done.owns {G G' : Gh} {w' : World} {env : List (Nat × AV)} {t : Nat → Value} {r : Res} {d : Nat} {v : Value} (h : Done P G w env t r d v w' G') (hd : Loc.slot d ∉ r.own) : Owns P G' env r.H r.own t w' :=
  ⟨fun s hs => h.slot s (by rintro rfl; exact hd hs) hs, h.cell, h.dom⟩

/-- The value is put; all stands as the machine has it. 'hd': what the operation has left is told for every slot that it may be put in. -/
theorem put_sound {nt : Nat} {st st' : St} {a : Act} {r : Res} {dst : Option Nat} {G G' : Gh} {w' : World} {v : Value} (hR : Rel P B G nt st a w) (hp : r.put nt st.env dst = some st') (d : Nat) (hdst : ∀ q, dst = some q → q = d) (hnone : dst = none → Loc.slot d ∉ r.own)
    (h : Done P G w st.env (slotsOf a) r d v w' G') : Rel P B G' nt st' (a.put dst v) w' ∧ Ext G w G' w' := by
  refine ⟨?_, h.ext⟩
  cases dst with
  | none =>
    simp only [Res.put, Option.some.injEq] at hp; subst hp
    exact ⟨h.ok, h.heap, h.owns (hnone rfl), fun s => h.ext.rep (hR.env s), hR.size, hR.defers.ext h.ext⟩
  | some q =>
    obtain rfl := hdst q rfl
    simp only [Res.put] at hp
    split at hp
    · rename_i hlt
      injection hp with hp; subst hp
      have hsz : q < a.tmps.size := by rw [hR.size]; exact hlt
      refine ⟨h.ok, h.heap, ⟨?_, ?_, ?_⟩, ?_, by simp [Act.put, hR.size], hR.defers.ext h.ext⟩
      · intro s hs
        rw [slots_put hsz, look_cons]
        by_cases hsq : s = q
        · subst hsq
          rw [if_pos rfl, if_pos rfl]
          cases hg : r.gives with
          | true => exact h.gives hg
          | false => simp only [hg, cond_false] at hs; exact absurd rfl (mem_drop.1 hs).2
        · rw [if_neg hsq, if_neg hsq]
          refine h.slot s hsq ?_
          cases hg : r.gives with
          | true =>
            simp only [hg, cond_true] at hs
            rcases mem_give.1 hs with e | ⟨e, _⟩
            · injection e with e; exact absurd e hsq
            · exact e
          | false => simp only [hg, cond_false] at hs; exact (mem_drop.1 hs).1
      · intro id off b k cs hm
        refine h.cell id off b k cs ?_
        cases hg : r.gives with
        | true =>
          simp only [hg, cond_true] at hm
          rcases mem_give.1 hm with e | ⟨e, _⟩
          · cases e
          · exact e
        | false => simp only [hg, cond_false] at hm; exact (mem_drop.1 hm).1
      · intro id off hm
        refine h.dom id off ?_
        cases hg : r.gives with
        | true =>
          simp only [hg, cond_true] at hm
          rcases mem_give.1 hm with e | ⟨e, _⟩
          · cases e
          · exact e
        | false => simp only [hg, cond_false] at hm; exact (mem_drop.1 hm).1
      · intro s
        have := slots_put (v := v) hsz s
        unfold slotsOf at this
        rw [this, look_cons]
        by_cases hsq : s = q
        · rw [if_pos hsq, if_pos hsq]; exact h.rep
        · rw [if_neg hsq, if_neg hsq]; exact h.ext.rep (hR.env s)
    · cases hp

/-! ### calls -/
def Gh.callee (G : Gh) : Gh := { G with owner := fun b => match G.owner b with | some (.cell i o) => some (.cell i o) | _ => none }
def Gh.back (G G' : Gh) : Gh := { G' with owner := fun b => match G.owner b with | some (.slot s) => some (.slot s) | _ => G'.owner b }

theorem callee_foot {G : Gh} {b : Nat} (h : Foot G.callee b) : Foot G b := by
  rcases h with h | h
  · exact .inl h
  · refine .inr ?_
    simp only [Gh.callee] at h
    split at h
    · rename_i e; rw [e]; rfl
    · cases h
theorem callee_gok {G : Gh} (g : GOk G w) : GOk G.callee w where
  fin := fun id b h => by
    obtain ⟨h1, h3⟩ := g.fin id b h
    exact ⟨h1, by simp only [Gh.callee, h3]⟩
  new := fun b hb => by
    obtain ⟨h1, h2, h3⟩ := g.new b hb
    exact ⟨h1, by simp only [Gh.callee, h2], h3⟩
  held := ⟨fun b hb => ⟨(g.held.lt b hb).1, fun h => (g.held.lt b hb).2 (callee_foot h)⟩, g.held.is⟩
theorem callee_own {G : Gh} {i o : Nat} {x : AV} {v : Value} (r : OwnAt P G w (.cell i o) x v) : OwnAt P G.callee w (.cell i o) x v := by
  intro e xs hx
  obtain ⟨sz, cells, h1, h2, h3, h4⟩ := r e xs hx
  exact ⟨sz, cells, h1, h2, h3, fun q hq => ⟨by simp only [Gh.callee, (h4 q hq).1], (h4 q hq).2⟩⟩

structure CellOwns (P : Program) (G : Gh) (H : List (Option Blk)) (own : List Loc) (w : World) : Prop where
  cell : ∀ id off b k cs, Loc.cell id off ∈ own → G.f id = some b → H[id]? = some (some k) → w.heap[b]? = some (.cells cs k.e (0, 0)) → OwnAt P G w (.cell id off) (k.cs.getD off .undef) (cs.getD off undef)
  dom : ∀ id off, Loc.cell id off ∈ own → Live H id

/-- What a call leaves. -/
structure CallDone (P : Program) (G : Gh) (w : World) (out : Out) (v : Value) (w' : World) (G' : Gh) : Prop where
  ext : Ext G w G' w'
  ok : GOk G' w'
  heap : HeapRel P G' out.2.1 w'
  rep : Rep P (G'.mem w') out.1 v
  own : CellOwns P G' out.2.1 out.2.2 w'

def ArgsRep (P : Program) (M : Mem) (args : List AV) (vals : Array Value) : Prop := vals.size = args.length ∧ ∀ i, i < args.length → Rep P M (args.getD i .undef) (vals.getD i undef)
def CallSound (P : Program) (call : CallA) : Prop := ∀ f args H own out, call f args H own = some out → ∀ (G : Gh) (w : World) (vals : Array Value), GOk G w → HeapRel P G H w → CellOwns P G H own w → ArgsRep P (G.mem w) args vals →
  Calls P f vals w fun e w' => ∃ v G', e = .returned v ∧ CallDone P G w out v w' G'

theorem back_done {G G' : Gh} {w' : World} {env : List (Nat × AV)} {H : List (Option Blk)} {own : List Loc} {t : Nat → Value} {out : Out} {v : Value} (g : GOk G w) (hH : HeapRel P G H w) (o : Owns P G env H own t w) (h : CallDone P G.callee w out v w' G') (d : Nat) :
    Done P G w env t ⟨out.1, out.2.1, own.filter (fun l => !l.isCell) ++ out.2.2.filter Loc.isCell, false⟩ d v w' (G.back G') := by
  have slotF : ∀ b s, G.owner b = some (.slot s) → b < w.heap.size ∧ ¬ Foot G.callee b := by
    intro b s hb
    have hlt : b < w.heap.size := by
      rcases Nat.lt_or_ge b w.heap.size with h | h
      · exact h
      · have := (g.new b h).2.1; rw [hb] at this; cases this
    refine ⟨hlt, ?_⟩
    rintro (⟨id, hid⟩ | hf)
    · have := (g.fin id b hid).2; rw [hb] at this; cases this
    · simp only [Gh.callee, hb] at hf; cases hf
  have hext : Ext G w (G.back G') w' := by
    refine ⟨h.ext.os, h.ext.tape, h.ext.output, h.ext.size, h.ext.prot, h.ext.f, h.ext.bs, ?_⟩
    intro b hb hf
    obtain ⟨h1, h2, h3⟩ := h.ext.foreign b hb (fun hf' => hf (callee_foot hf'))
    refine ⟨h1, h2, ?_⟩
    rintro (h4 | h4)
    · exact h3 (.inl h4)
    · simp only [Gh.back] at h4
      split at h4
      · rename_i e; exact hf (.inr (by rw [e]; rfl))
      · exact h3 (.inr h4)
  refine ⟨hext, ⟨?_, ?_, hext.held g.held⟩, ⟨h.heap.dom, h.heap.blk, h.heap.inj, h.heap.lim⟩, h.rep, ?_, ?_, fun h => (by cases h), ?_⟩
  · intro id b hid
    obtain ⟨h1, h3⟩ := h.ok.fin id b hid
    refine ⟨h1, ?_⟩
    simp only [Gh.back]
    split
    · rename_i s e
      obtain ⟨h4, h5⟩ := slotF b s e
      exact absurd (.inl ⟨id, hid⟩) (h.ext.foreign b h4 h5).2.2
    · exact h3
  · intro b hb
    obtain ⟨h1, h2, h3⟩ := h.ok.new b hb
    refine ⟨h1, ?_, h3⟩
    simp only [Gh.back]
    rw [(g.new b (Nat.le_trans h.ext.size hb)).2.1]
    exact h2
  · intro s _ hs
    rcases List.mem_append.1 hs with hs | hs
    · have hs := (List.mem_filter.1 hs).1
      intro e xs hx
      obtain ⟨sz, cells, h1, h2, h3, h4⟩ := o.slot s hs e xs hx
      refine ⟨sz, cells, h1, h2, ?_, ?_⟩
      · rcases h3.2 with hn | ⟨q, cap, cur, hv, hb0, hh, rest⟩
        · exact ⟨h3.1, .inl hn⟩
        · have hq := h4 q (by rw [hv]; rfl)
          obtain ⟨h5, h6⟩ := slotF q s hq.1
          exact ⟨h3.1, .inr ⟨q, cap, cur, hv, hb0, by rw [(h.ext.foreign q h5 h6).1]; exact hh, rest⟩⟩
      · intro q hq
        have hq := h4 q hq
        obtain ⟨h5, h6⟩ := slotF q s hq.1
        refine ⟨by simp only [Gh.back, hq.1], ?_⟩
        show G'.lim q = _
        rw [(h.ext.foreign q h5 h6).2.1]; exact hq.2
    · have := (List.mem_filter.1 hs).2; cases this
  · intro id off b k cs hm hf hk hb
    rcases List.mem_append.1 hm with hm | hm
    · have := (List.mem_filter.1 hm).2; simp [Loc.isCell] at this
    · have hm := (List.mem_filter.1 hm).1
      intro e xs hx
      obtain ⟨sz, cells, h1, h2, h3, h4⟩ := h.own.cell id off b k cs hm hf hk hb e xs hx
      refine ⟨sz, cells, h1, h2, h3, fun q hq => ⟨?_, (h4 q hq).2⟩⟩
      have hq' := (h4 q hq).1
      simp only [Gh.back]
      split
      · rename_i s e'
        obtain ⟨h5, h6⟩ := slotF q s e'
        exact absurd (.inr (by rw [hq']; rfl)) (h.ext.foreign q h5 h6).2.2
      · exact hq'
  · intro id off hm
    rcases List.mem_append.1 hm with hm | hm
    · have := (List.mem_filter.1 hm).2; simp [Loc.isCell] at this
    · exact h.own.dom id off (List.mem_filter.1 hm).1

end
end Go.Proofs.YtecdcnacjlcjoaaDoor.Am

/- The abstract machine is right: lists that were written into and are written no more. -/
namespace Go.Proofs.YtecdcnacjlcjoaaDoor.Am
set_option linter.unusedVariables false
set_option linter.unusedSimpArgs false
open Go.RowKit

section
variable {P : Program} {w : World}

theorem fzOne_sound {G : Gh} {H : List (Option Blk)} {own : List Loc} {x : AV} {v : Value} (g : GOk G w) (hH : HeapRel P G H w) (ho : CellOwns P G H own w) (r : Rep P (G.mem w) x v) :
    ∃ G', Ext G w G' w ∧ GOk G' w ∧ HeapRel P G' (fzOne P H x).2 w ∧ CellOwns P G' (fzOne P H x).2 own w ∧ Rep P (G'.mem w) (fzOne P H x).1 v := by
  have same : ∀ {y : AV × List (Option Blk)}, y = (x, H) → ∃ G', Ext G w G' w ∧ GOk G' w ∧ HeapRel P G' y.2 w ∧ CellOwns P G' y.2 own w ∧ Rep P (G'.mem w) y.1 v := by
    rintro y rfl
    exact ⟨G, Ext.refl _ _, g, hH, ho, r⟩
  unfold fzOne
  split
  case h_2 => exact same rfl
  rename_i e id off len
  split
  case h_2 => exact same rfl
  rename_i k sz hk hsz
  cases hc : (!(Nat.beq k.e LOOP) && Nat.ble (off + len * sz) k.cs.length && Nat.blt 0 sz && Nat.blt 0 k.cs.length) with
  | false => simp only [cond_false]; exact same rfl
  | true =>
    simp only [cond_true]
    split
    case h_2 => exact same rfl
    rename_i xs hx
    simp only [Bool.and_eq_true] at hc
    obtain ⟨⟨⟨c0, c1⟩, c2⟩, c3⟩ := hc
    have hke : Nat.beq k.e LOOP = false := by cases hb : Nat.beq k.e LOOP with
      | false => rfl
      | true => rw [hb] at c0; cases c0
    have c1 : off + len * sz ≤ k.cs.length := Nat.ble_eq.mp c1
    have c2 : 0 < sz := Nat.blt_eq.mp c2
    have c3 : 0 < k.cs.length := Nat.blt_eq.mp c3
    have hkne : k.cs ≠ [] := by intro e; rw [e] at c3; exact absurd c3 (Nat.not_lt_zero _)
    cases r with
    | sl _ _ _ _ b cap sz' hf hsz' hz' hb hl =>
    obtain rfl : sz = sz' := by rw [hsz] at hsz'; exact Option.some.inj hsz'
    have hf : G.f id = some b := hf
    obtain ⟨ds, hd, hds, hbs, hrep, hone⟩ := (hH.blk id b k hf hk).1 hke
    have hlt : id < H.length := (List.getElem?_eq_some_iff.1 hk).1
    have hlim := hH.lim id b k hf hk hkne
    have hown := (g.fin id b hf).2
    have hcl : ((k.cs.drop off).take (len * sz)).length = len * sz := by rw [List.length_take, List.length_drop]; omega
    obtain ⟨x1, x2, x3⟩ := chop_spec len _ xs hx hcl
    have hset : ∀ j q, (H.set id (some ⟨k.e, []⟩))[j]? = some (some q) → (j = id ∧ q = ⟨k.e, []⟩) ∨ (j ≠ id ∧ H[j]? = some (some q)) := by
      intro j q hj
      by_cases hji : j = id
      · subst hji
        rw [List.getElem?_set_self hlt] at hj
        injection hj with hj; injection hj with hj
        exact .inl ⟨rfl, hj.symm⟩
      · rw [List.getElem?_set_ne (fun e => hji e.symm)] at hj
        exact .inr ⟨hji, hj⟩
    have hlimo : ∀ q, q ≠ b → upd G.lim b (off + len * sz) q = G.lim q := fun q hq => upd_ne _ _ hq
    have hext : Ext G w { G with lim := upd G.lim b (off + len * sz) } w := by
      refine ⟨rfl, rfl, rfl, Nat.le_refl _, ?_, fun _ _ h => h, fun _ => Nat.le_refl _, ?_⟩
      · intro q o u hq
        by_cases hqb : q = b
        · subst hqb
          unfold pmOf at hq
          rw [hlim] at hq
          simp at hq
        · unfold pmOf at hq ⊢
          show (if o < upd G.lim b (off + len * sz) q then _ else _) = _
          rw [hlimo q hqb]; exact hq
      · intro q hq hn
        have hqb : q ≠ b := by rintro rfl; exact hn (.inl ⟨id, hf⟩)
        exact ⟨rfl, hlimo q hqb, hn⟩
    have hbw := (g.fin id b hf).1
    have hgok : GOk { G with lim := upd G.lim b (off + len * sz) } w := by
      refine ⟨g.fin, fun q hq => ?_, hext.held g.held⟩
      obtain ⟨a1, a2, a3⟩ := g.new q hq
      exact ⟨(hlimo q (by omega)).trans a1, a2, a3⟩
    have hkill := kill_heap hH hk hke
    refine ⟨{ G with lim := upd G.lim b (off + len * sz) }, hext, hgok, ⟨hkill.dom, fun i q k' hi hk' => ?_, hkill.inj, fun i q k' hi hk' hn => ?_⟩, ⟨fun i o q k' cs hm hi hk' hb' => ?_, fun i o hm => (ho.dom i o hm).set _ _⟩, ?_⟩
    · exact (hkill.blk i q k' hi hk').to rfl rfl hext.mem
    · rcases hset i k' hk' with ⟨rfl, rfl⟩ | ⟨hne, hk'⟩
      · exact absurd rfl hn
      · have hqb : q ≠ b := by
          rintro rfl
          exact hne (hH.inj i id q k' k hi hf hk' hk hn hkne)
        exact (hlimo q hqb).trans (hH.lim i q k' hi hk' hn)
    · rcases hset i k' hk' with ⟨rfl, rfl⟩ | ⟨hne, hk'⟩
      · intro e' ys hy; cases hy
      · intro e' ys hy
        obtain ⟨s', cells, h1, h2, h3, h4⟩ := ho.cell i o q k' cs hm hi hk' hb' e' ys hy
        refine ⟨s', cells, h1, h2, h3, fun gq hg => ?_⟩
        obtain ⟨a1, a2⟩ := h4 gq hg
        have hgb : gq ≠ b := by rintro rfl; rw [hown] at a1; cases a1
        exact ⟨a1, (hlimo gq hgb).trans a2⟩
    · have hflat : ∀ j, j < len * sz → (flat (xs ++ [])).getD j .undef = k.cs.getD (off + j) .undef := by
        intro j hj
        rw [List.append_nil, x3, getD_drop_take _ _ _ _ hj]
      have hfl : (flat (xs ++ [])).length = len * sz := by rw [List.append_nil, x3, hcl]
      have key := Rep.lst (P := P) (M := (Gh.mk (upd G.lim b (off + len * sz)) G.f G.bs G.owner).mem w) e xs [] (some ⟨b, off, none⟩) cap sz b off (fun j => ds.getD (off + j) undef) hsz c2 (by rw [List.append_nil]; exact x2) (by rw [x1]; exact hl) (fun _ => rfl)
        (by
          intro j hj
          rw [hfl] at hj
          show pmOf w _ b (off + j) = _
          unfold pmOf
          show (if off + j < upd G.lim b (off + len * sz) b then _ else _) = _
          rw [upd_same, if_pos (by omega)]
          have hjd : off + j < ds.size := by omega
          simp [World.cell?, hd, hjd])
        (by
          intro j hj
          rw [hfl] at hj
          rw [hflat j hj]
          exact hext.rep (hrep (off + j) (by omega)))
        (by
          intro j hj
          rw [hfl] at hj
          exact hone (off + j) (by omega))
      rw [x1] at key
      exact key

theorem fzAll_sound : ∀ (xs : List AV) {G : Gh} {H : List (Option Blk)} {own : List Loc} {vs : List Value} (g : GOk G w) (hH : HeapRel P G H w) (ho : CellOwns P G H own w) (hl : vs.length = xs.length) (r : ∀ i, i < xs.length → Rep P (G.mem w) (xs.getD i .undef) (vs.getD i undef)),
    ∃ G', Ext G w G' w ∧ GOk G' w ∧ HeapRel P G' (fzAll P xs H).2 w ∧ CellOwns P G' (fzAll P xs H).2 own w ∧ (fzAll P xs H).1.length = xs.length ∧ ∀ i, i < xs.length → Rep P (G'.mem w) ((fzAll P xs H).1.getD i .undef) (vs.getD i undef)
  | [], G, H, own, vs, g, hH, ho, hl, r => ⟨G, Ext.refl _ _, g, hH, ho, rfl, fun i hi => by simp at hi⟩
  | x :: xs, G, H, own, vs, g, hH, ho, hl, r => by
    cases vs with
    | nil => simp at hl
    | cons v vs =>
    have r0 : Rep P (G.mem w) x v := by simpa using r 0 (by simp)
    obtain ⟨G1, e1, g1, h1, o1, rx⟩ := fzOne_sound g hH ho r0
    obtain ⟨G2, e2, g2, h2, o2, l2, r2⟩ := fzAll_sound xs (vs := vs) g1 h1 o1 (by simpa using hl) (fun i hi => by
      have := r (i + 1) (by simpa using hi)
      simp only [List.getD_cons_succ] at this
      exact e1.rep this)
    refine ⟨G2, e1.trans e2, g2, h2, o2, by simp only [fzAll, List.length_cons, l2], ?_⟩
    intro i hi
    cases i with
    | zero => simp only [fzAll, List.getD_cons_zero]; exact e2.rep rx
    | succ i =>
      simp only [fzAll, List.getD_cons_succ]
      exact r2 i (by simpa using hi)

theorem fz_done {G G' : Gh} {w0 : World} {out : Out} {v : Value} (h : CallDone P G w0 out v w G') : ∃ G'', CallDone P G w0 ((fzV P out.1 out.2.1).1, (fzV P out.1 out.2.1).2, out.2.2) v w G'' := by
  obtain ⟨x, H, own⟩ := out
  obtain ⟨hext, hok, hheap, hrep, hown⟩ := h
  simp only at hheap hrep hown ⊢
  have one : ∃ G'', CallDone P G w0 ((fzOne P H x).1, (fzOne P H x).2, own) v w G'' := by
    obtain ⟨G2, e2, g2, h2, o2, r2⟩ := fzOne_sound hok hheap hown hrep
    exact ⟨G2, hext.trans e2, g2, h2, r2, o2⟩
  unfold fzV
  split
  · rename_i xs
    cases hrep with
    | tup _ vs hl hh =>
      obtain ⟨G2, e2, g2, h2, o2, l2, r2⟩ := fzAll_sound xs (vs := vs.toList) hok hheap hown (by simpa using hl) (fun i hi => by
        have := hh i hi
        simpa [List.getD_eq_getElem?_getD, Array.getD_eq_getD_getElem?] using this)
      refine ⟨G2, hext.trans e2, g2, h2, .tup _ vs (by rw [l2]; exact hl) (fun i hi => ?_), o2⟩
      rw [l2] at hi
      have := r2 i hi
      simpa [List.getD_eq_getElem?_getD, Array.getD_eq_getD_getElem?] using this
  · exact one

end
end Go.Proofs.YtecdcnacjlcjoaaDoor.Am

/- The abstract machine is right, fourteenth part: an operation, with the calls. -/
namespace Go.Proofs.YtecdcnacjlcjoaaDoor.Am
set_option linter.unusedVariables false
set_option linter.unusedSimpArgs false
open Go.RowKit

section
variable {P : Program} {w : World} {B : Nat}

/-! ### ends in order -/
theorem blt_irrefl (a : Nat) : Nat.blt a a = false := by
  cases h : Nat.blt a a with
  | false => rfl
  | true => have := Nat.blt_eq.mp h; omega
theorem lt_irrefl (x : Loc) : Loc.lt x x = false := by cases x <;> simp [Loc.lt, blt_irrefl]
theorem lt_trans' {x y z : Loc} (h : Loc.lt x y = true) (k : Loc.lt y z = true) : Loc.lt x z = true := by
  cases x <;> cases y <;> cases z <;> simp [Loc.lt] at h k ⊢ <;> omega
theorem lt_tri (x y : Loc) : Loc.lt x y = true ∨ x = y ∨ Loc.lt y x = true := by
  cases x <;> cases y <;> simp [Loc.lt] <;> omega
theorem mem_insL {x m : Loc} {l : List Loc} : m ∈ insL x l ↔ m = x ∨ m ∈ l := by
  induction l with
  | nil => simp [insL]
  | cons y r ih =>
    simp only [insL]
    cases h1 : Loc.lt x y with
    | true => simp
    | false =>
      cases h2 : Loc.beq x y with
      | true =>
        rw [beq_loc] at h2; subst h2
        simp
      | false =>
        simp only [cond_false, List.mem_cons, ih]
        constructor
        · rintro (h | h | h) <;> simp [h]
        · rintro (h | h | h) <;> simp [h]
theorem mem_canon {m : Loc} {l : List Loc} : m ∈ canon l ↔ m ∈ l := by
  induction l with
  | nil => simp [canon]
  | cons y r ih => show m ∈ insL y (canon r) ↔ _; rw [mem_insL, ih, List.mem_cons]
theorem sorted_insL {x : Loc} {l : List Loc} (h : l.Pairwise fun a b => Loc.lt a b = true) : (insL x l).Pairwise fun a b => Loc.lt a b = true := by
  induction l with
  | nil => simp [insL]
  | cons y r ih =>
    rw [List.pairwise_cons] at h
    simp only [insL]
    cases h1 : Loc.lt x y with
    | true =>
      simp only [cond_true]
      rw [List.pairwise_cons, List.pairwise_cons]
      exact ⟨fun a ha => by
        rcases List.mem_cons.1 ha with rfl | ha
        · exact h1
        · exact lt_trans' h1 (h.1 a ha), h⟩
    | false =>
      cases h2 : Loc.beq x y with
      | true => simp only [cond_false, cond_true]; rw [List.pairwise_cons]; exact h
      | false =>
        simp only [cond_false]
        rw [List.pairwise_cons]
        refine ⟨fun a ha => ?_, ih h.2⟩
        rcases mem_insL.1 ha with rfl | ha
        · rcases lt_tri a y with e | e | e
          · rw [e] at h1; cases h1
          · rw [beq_loc.2 e] at h2; cases h2
          · exact e
        · exact h.1 a ha
theorem sorted_canon (l : List Loc) : (canon l).Pairwise fun a b => Loc.lt a b = true := by
  induction l with
  | nil => exact List.Pairwise.nil
  | cons y r ih => exact sorted_insL ih
theorem sorted_ext : ∀ {l m : List Loc}, l.Pairwise (fun a b => Loc.lt a b = true) → m.Pairwise (fun a b => Loc.lt a b = true) → (∀ x, x ∈ l ↔ x ∈ m) → l = m
  | [], [], _, _, _ => rfl
  | [], y :: r, _, _, h => by have := (h y).2 (by simp); cases this
  | x :: l, [], _, _, h => by have := (h x).1 (by simp); cases this
  | x :: l, y :: m, hl, hm, h => by
    rw [List.pairwise_cons] at hl hm
    have hxy : x = y := by
      rcases List.mem_cons.1 ((h x).1 (by simp)) with e | e
      · exact e
      · rcases List.mem_cons.1 ((h y).2 (by simp)) with e' | e'
        · exact e'.symm
        · have := lt_trans' (hl.1 y e') (hm.1 x e); rw [lt_irrefl] at this; cases this
    subst hxy
    congr 1
    refine sorted_ext hl.2 hm.2 fun z => ?_
    constructor
    · intro hz
      rcases List.mem_cons.1 ((h z).1 (by simp [hz])) with e | e
      · subst e; have := hl.1 z hz; rw [lt_irrefl] at this; cases this
      · exact e
    · intro hz
      rcases List.mem_cons.1 ((h z).2 (by simp [hz])) with e | e
      · subst e; have := hm.1 z hz; rw [lt_irrefl] at this; cases this
      · exact e
theorem canon_ext {l m : List Loc} (h : ∀ x, x ∈ l ↔ x ∈ m) : canon l = canon m :=
  sorted_ext (sorted_canon l) (sorted_canon m) fun x => by rw [mem_canon, mem_canon]; exact h x

/-- No function of the program is the one that the model asks by name. -/
def NoNum (P : Program) : Prop := ∀ (f : Nat) (fn : Func), P.funcs[f]? = some fn → (fn.name == "runtime.NumGoroutine") = false

theorem run_callFunc {f : FuncId} (hN : NoNum P) (hb : hasBody P f = true) (args : Array Value) : (callFunc f args).run P w = .ok (.enter f args) w := by
  unfold hasBody at hb
  cases hf : P.funcs[f]? with
  | none => rw [hf] at hb; cases hb
  | some fn =>
    rw [hf] at hb
    have h1 := hN f fn hf
    have h2 : fn.body.isNone = false := by cases hbd : fn.body <;> simp [hbd] at hb ⊢
    simp only [callFunc, Sem.run_bind, run_program, Result.andThen_ok, hf, h1, h2, Bool.false_eq_true, if_false, Sem.run_pure]

theorem args_append {M : Mem} {xs ys : List AV} {us vs : Array Value} (h : ArgsRep P M xs us) (k : ArgsRep P M ys vs) : ArgsRep P M (xs ++ ys) (us ++ vs) := by
  refine ⟨by rw [Array.size_append, List.length_append, h.1, k.1], ?_⟩
  intro i hi
  rw [List.length_append] at hi
  simp only [List.getD_eq_getElem?_getD, Array.getD_eq_getD_getElem?]
  by_cases hlt : i < xs.length
  · have := h.2 i hlt
    simp only [List.getD_eq_getElem?_getD, Array.getD_eq_getD_getElem?] at this
    rw [List.getElem?_append_left hlt, Array.getElem?_append_left (by rw [h.1]; exact hlt)]
    exact this
  · have := k.2 (i - xs.length) (by omega)
    simp only [List.getD_eq_getElem?_getD, Array.getD_eq_getD_getElem?] at this
    rw [List.getElem?_append_right (by omega), Array.getElem?_append_right (by rw [h.1]; omega), h.1]
    exact this
theorem evalL_args {M : Mem} {env : List (Nat × AV)} {a : Act} (he : EnvRel P M env a) {xs : Array Operand} {vs : List AV} (h : evalL env xs.toList = some vs) : ArgsRep P M vs (xs.map a.eval) := by
  obtain ⟨h1, h2⟩ := evalL_rel xs.toList vs h (he.ops _)
  refine ⟨by simpa using h1, ?_⟩
  intro i hi
  have := h2 i hi
  simpa [List.getD_eq_getElem?_getD, Array.getD_eq_getD_getElem?] using this

/-- What the operation is, where it is a call: into which function, with what. -/
theorem call_enters {G : Gh} {env : List (Nat × AV)} {H : List (Option Blk)} {own : List Loc} {a : Act} {call : CallA} {ops : List Oper} {o : Oper} {r : Res} (hN : NoNum P)
    (g : GOk G w) (hH : HeapRel P G H w) (he : EnvRel P (G.mem w) env a) (hc : isCallOp o.op = true) (h : core call P ops o env H own = some r) :
    ∃ f args vals out, (execOp a.eval o).run P w = .ok (.enter f vals) w ∧ ArgsRep P (G.mem w) args vals ∧ call f args H (canon (own.filter Loc.isCell)) = some out ∧ r = ⟨out.1, out.2.1, own.filter (fun l => !l.isCell) ++ out.2.2.filter Loc.isCell, false⟩ := by
  have fin : ∀ f args vals, callA call P H own f args = some r → ArgsRep P (G.mem w) args vals → (execOp a.eval o).run P w = (callFunc f vals).run P w → ∃ f args vals out, (execOp a.eval o).run P w = .ok (.enter f vals) w ∧ ArgsRep P (G.mem w) args vals ∧ call f args H (canon (own.filter Loc.isCell)) = some out ∧ r = ⟨out.1, out.2.1, own.filter (fun l => !l.isCell) ++ out.2.2.filter Loc.isCell, false⟩ := by
    intro f args vals hca har hrun
    unfold callA at hca
    cases hb : hasBody P f with
    | false => rw [hb] at hca; cases hca
    | true =>
      rw [hb] at hca
      simp only [cond_true] at hca
      split at hca
      · rename_i x H' own' hcl
        injection hca with hca
        exact ⟨f, args, vals, _, hrun.trans (run_callFunc hN hb vals), har, hcl, hca.symm⟩
      · cases hca
  obtain ⟨dst, op, ty, pos, after, guard⟩ := o
  simp only at hc fin
  unfold isCallOp at hc
  split at hc
  case h_3 => cases hc
  · rename_i f args at_
    unfold core at h
    simp only at h
    split at h
    · rename_i q cap vs hf hvs
      have rf := he.opd hf
      generalize hfv : a.eval f = fv at rf
      cases rf with
      | fn _ _ caps hl hh =>
        refine fin q _ (args.map a.eval ++ caps) h (args_append (evalL_args he hvs) ⟨hl, hh⟩) ?_
        simp only [execOp, resolve, hfv, Deferred.ofValue, Sem.run_bind, Sem.run_pure, Result.andThen_ok, invoke, Array.empty_append]
    · cases h
  · rename_i rv name args at_
    unfold core at h
    simp only at h
    split at h
    · rename_i t v vs hr hvs
      have rr := he.opd hr
      generalize hrv : a.eval rv = iv at rr
      cases rr with
      | iface _ _ u ru =>
        split at h
        · rename_i f x hm
          have hargs := evalL_args he hvs
          -- the method
          have hmeth : ∃ xv, (method (P.types.size + Made.depth) t u name).run P w = .ok (f, xv) w ∧ Rep P (G.mem w) x xv := by
            have hmd : 0 < Made.depth := by decide
            obtain ⟨q, hq⟩ : ∃ q, P.types.size + Made.depth = q + 1 := ⟨P.types.size + Made.depth - 1, by omega⟩
            rw [hq]
            unfold methodA at hm
            split at hm
            · rename_i i hi
              split at hm
              · rename_i m hfind
                split at hm
                · rename_i hp0
                  have hpath : m.path.toList = [] := by
                    have : m.path = #[] := Array.eq_empty_of_size_eq_zero hp0
                    rw [this]
                  have hie : m.path.isEmpty = true := by simp [Array.isEmpty, hp0]
                  simp only [method, Sem.run_bind, run_typeInfo' hi, Result.andThen_ok, hfind, hpath, follow, Sem.run_pure]
                  split at hm
                  · rename_i f' pe hmf hu
                    injection hm with hm; injection hm with h1 h2; subst h1; subst h2
                    exact ⟨u, by simp only [hmf, Sem.run_bind, receiverAt, run_underlying' hu, Result.andThen_ok, Place.get, Sem.run_pure], ru⟩
                  · rename_i f' e hmf hu
                    split at hm
                    · rename_i id off
                      cases hl : loadA P H e (.ptr id off) with
                      | none => rw [hl] at hm; cases hm
                      | some y =>
                        rw [hl] at hm; simp only [Option.map_some, Option.some.injEq, Prod.mk.injEq] at hm
                        obtain ⟨h1, h2⟩ := hm; subst h1; subst h2
                        obtain ⟨z, hz, rz, _⟩ := load_sound hl ru (fun id off b k _ hf hk => hH.blk id b k hf hk)
                        cases ru with
                        | ptr _ _ b hfb =>
                          refine ⟨z, ?_, rz⟩
                          have hz' : (loadVar e ⟨b, off, none⟩).run P w = .ok z w := by
                            simpa only [Instr.loadAt, Instr.sureAddr, Sem.run_bind, Sem.run_pure, Result.andThen_ok] using hz
                          have hw : (Builtin.ssaWrapNilChk_ #[t] t #[.pointer (some ⟨b, off, none⟩), strVal "", strVal ((name.splitOn ".").getLastD name)]).run P w = .ok (.pointer (some ⟨b, off, none⟩)) w := by
                            rfl
                          simp only [hmf, Sem.run_bind, receiverAt, run_underlying' hu, Result.andThen_ok, Place.get, Sem.run_pure, hie, if_true, hw, asAddr, hz']
                    · cases hm
                  · rename_i f' e hmf hu
                    injection hm with hm; injection hm with h1 h2; subst h1; subst h2
                    exact ⟨u, by simp only [hmf, Sem.run_bind, receiverAt, run_underlying' hu, Result.andThen_ok, Place.get, Sem.run_pure], ru⟩
                  · rename_i f' e hmf hu
                    injection hm with hm; injection hm with h1 h2; subst h1; subst h2
                    exact ⟨u, by simp only [hmf, Sem.run_bind, receiverAt, run_underlying' hu, Result.andThen_ok, Place.get, Sem.run_pure], ru⟩
                  · rename_i f' e hmf hu
                    injection hm with hm; injection hm with h1 h2; subst h1; subst h2
                    exact ⟨u, by simp only [hmf, Sem.run_bind, receiverAt, run_underlying' hu, Result.andThen_ok, Place.get, Sem.run_pure], ru⟩
                  · cases hm
                · cases hm
              · cases hm
            · cases hm
          obtain ⟨xv, hmr, rx⟩ := hmeth
          refine fin f _ (#[xv] ++ args.map a.eval) h (args_append (xs := [x]) (us := #[xv]) ⟨rfl, fun i hi => by
            have : i = 0 := by simpa using hi
            subst this; exact rx⟩ hargs) ?_
          have hall : (#[a.eval rv] ++ args.map a.eval) = (a.eval rv :: (args.map a.eval).toList).toArray := by apply Array.ext'; simp
          have hex : (#[a.eval rv] ++ args.map a.eval).extract 1 (#[a.eval rv] ++ args.map a.eval).size = args.map a.eval := by
            rw [hall]
            apply Array.ext'
            simp [List.take_of_length_le]
          have hg0 : (#[a.eval rv] ++ args.map a.eval)[0]? = some (a.eval rv) := by rw [hall]; rfl
          have hinv : (invoke (.fn (.method name) #[]) (#[a.eval rv] ++ args.map a.eval)).run P w = (callMethod (a.eval rv) name (args.map a.eval)).run P w := by
            simp only [invoke, hg0, hex]
          have hexec : (execOp a.eval { dst := dst, op := .call { callee := .invoke rv name, args := args, argTypes := at_ }, type := ty, pos := pos, after := after, guard := guard }).run P w = (invoke (.fn (.method name) #[]) (#[a.eval rv] ++ args.map a.eval)).run P w := by
            simp only [execOp, resolve, Sem.run_bind, Sem.run_pure, Result.andThen_ok]
          rw [hexec, hinv, hrv]
          simp only [callMethod, Sem.run_bind, run_program, Result.andThen_ok, hmr]
        · cases h
    · cases h

/-- AN OPERATION: whatever it is, Go's step is the machine's. -/
theorem op_wp {nt : Nat} {G : Gh} {st st' : St} {a : Act} {call : CallA} {pre : Option (Nat × Option (List Nat))} {ops : List Oper} {o : Oper} {K : Act → World → Prop} {Q : Exit → Act → World → Prop} (hN : NoNum P) (hcall : CallSound P call)
    (hR : Rel P B G nt st a w) (h : stepOp call P nt pre ops o st = some st') (hK : ∀ a' w' G', Rel P B G' nt st' a' w' → Ext G w G' w' → K a' w') : o.wp P a w K Q := by
  unfold stepOp at h
  split at h
  case h_2 => cases h
  rename_i r hcoreP
  obtain ⟨d0, hd0⟩ := fresh_slot r.own
  obtain ⟨d, hd1, hd2⟩ : ∃ d, (∀ q, o.dst = some q → q = d) ∧ (o.dst = none → Loc.slot d ∉ r.own) := by
    cases hdst : o.dst with
    | none => exact ⟨d0, (fun q e => by cases e), fun _ => hd0⟩
    | some q => exact ⟨q, (fun q' e => by injection e with e; exact e.symm), fun e => by cases e⟩
  have hcases : (core call P ops o st.env st.H st.own = some r ∨ ∃ e, newSl P e o.op st.env st.H st.own = some r) ∨ ∃ id, newAt P o st.env st.H st.own id = some r := by
    unfold coreP at hcoreP
    have hS : coreS call P ops o st.env st.H st.own = some r → (core call P ops o st.env st.H st.own = some r ∨ ∃ e, newSl P e o.op st.env st.H st.own = some r) ∨ ∃ id, newAt P o st.env st.H st.own id = some r := by
      intro h
      unfold coreS at h
      split at h
      · rename_i e _
        cases hk : okSl call.lo o.op st.env with
        | true => rw [hk] at h; exact .inl (.inr ⟨e, h⟩)
        | false => rw [hk] at h; cases h
      · exact .inl (.inl h)
    split at hcoreP
    · exact hS hcoreP
    · cases ha : allocOp o with
      | false =>
        rw [ha] at hcoreP
        simp only [cond_false] at hcoreP
        rename_i b lt
        cases hl : (lateNo b lt o st.env) with
        | true => rw [hl] at hcoreP; cases hcoreP
        | false => rw [hl] at hcoreP; exact hS hcoreP
      | true =>
        rw [ha] at hcoreP
        simp only [cond_true] at hcoreP
        split at hcoreP
        · split at hcoreP
          · exact .inr ⟨_, hcoreP⟩
          · cases hcoreP
        · cases hcoreP
  unfold Oper.wp
  rcases hcases with (hcore | ⟨e, hsl⟩) | ⟨id, hnew⟩
  case inl.inr =>
    obtain ⟨v, w', G', hrun, hdone⟩ := newSl_sound hR.ok hR.heap hR.own hR.env hsl d
    obtain ⟨h1, h2⟩ := put_sound hR h d hd1 hd2 hdone
    rw [hrun, Oper.upon_value]; exact hK _ _ _ h1 h2
  case inr =>
    obtain ⟨v, w', G', hrun, hdone⟩ := newAt_sound hR.ok hR.heap hR.own hR.env hnew d
    obtain ⟨h1, h2⟩ := put_sound hR h d hd1 hd2 hdone
    rw [hrun, Oper.upon_value]; exact hK _ _ _ h1 h2
  cases hc : isCallOp o.op with
  | false =>
    obtain ⟨v, w', G', hrun, hdone⟩ := core_sound hR.ok hR.heap hR.own hR.env hc hcore d
    obtain ⟨h1, h2⟩ := put_sound hR h d hd1 hd2 hdone
    rcases hrun with hrun | ⟨hrun, rfl⟩
    · rw [hrun, Oper.upon_value]; exact hK _ _ _ h1 h2
    · rw [hrun, Oper.upon_skip]; exact hK _ _ _ h1 h2
  | true =>
    obtain ⟨f, args, vals, out, hrun, har, hcl, hr⟩ := call_enters hN hR.ok hR.heap hR.env hc hcore
    rw [hrun, Oper.upon_enter]
    have hcs := hcall f args st.H _ out hcl G.callee w vals (callee_gok hR.ok) ⟨hR.heap.dom, hR.heap.blk, hR.heap.inj, hR.heap.lim⟩ ⟨fun id off b k cs hm hf hk hb => callee_own (hR.own.cell id off b k cs (List.mem_filter.1 (mem_canon.1 hm)).1 hf hk hb), fun id off hm => hR.own.dom id off (List.mem_filter.1 (mem_canon.1 hm)).1⟩ har
    refine hcs.mono ?_
    rintro e w' ⟨v, G', rfl, hdone⟩
    have hd := back_done hR.ok hR.heap hR.own hdone d
    rw [← hr] at hd
    obtain ⟨h1, h2⟩ := put_sound hR h d hd1 hd2 hd
    exact hK _ _ _ h1 h2

end
end Go.Proofs.YtecdcnacjlcjoaaDoor.Am

/- The abstract machine is right, sixteenth part: what an operation reads of slots, of the heap and of the ends. -/
namespace Go.Proofs.YtecdcnacjlcjoaaDoor.Am
set_option linter.unusedVariables false
set_option linter.unusedSimpArgs false
open Go.RowKit

section
variable {P : Program} {call : CallA} {ops : List Oper}

theorem evalO_env {env env' : List (Nat × AV)} {x : Operand} (h : ∀ s, x = .tmp s → look env s = look env' s) : evalO env x = evalO env' x := by
  cases x <;> simp only [evalO]
  rw [h _ rfl]
theorem evalL_env {env env' : List (Nat × AV)} : ∀ l : List Operand, (∀ x ∈ l, evalO env x = evalO env' x) → evalL env l = evalL env' l
  | [], _ => rfl
  | x :: r, h => by simp only [evalL]; rw [h x (by simp), evalL_env r fun y hy => h y (by simp [hy])]
theorem evalParts_env {env env' : List (Nat × AV)} : ∀ l : List (Nat × Operand), (∀ x ∈ l, evalO env x.2 = evalO env' x.2) → evalParts env l = evalParts env' l
  | [], _ => rfl
  | (i, x) :: r, h => by simp only [evalParts]; rw [h (i, x) (by simp), evalParts_env r fun y hy => h y (by simp [hy])]
theorem optA_env {env env' : List (Nat × AV)} (x : Option Operand) (h : ∀ y, x = some y → evalO env y = evalO env' y) : optA env x = optA env' x := by
  cases x with
  | none => rfl
  | some y => simp only [optA]; rw [h y rfl]

theorem core_env {env env' : List (Nat × AV)} {H : List (Option Blk)} {own : List Loc} {o : Oper} (h : ∀ s ∈ opSlots o, look env s = look env' s) : core call P ops o env H own = core call P ops o env' H own := by
  have hs : ∀ s, .tmp s ∈ o.op.operands.toList → look env s = look env' s := by
    intro s hm
    exact h s (by unfold opSlots; exact List.mem_filterMap.2 ⟨_, hm, rfl⟩)
  have hx : ∀ x ∈ o.op.operands.toList, evalO env x = evalO env' x := fun x hm => evalO_env fun s e => hs s (e ▸ hm)
  clear h
  obtain ⟨dst, op, ty, pos, after, guard⟩ := o
  simp only at hs hx
  cases op
  case move x =>
    cases x with
    | tmp s => simp only [core]; rw [hs s (by simp [Op.operands])]
    | _ => rfl
  case load t a => simp only [core]; rw [hx a (by simp [Op.operands])]
  case alloc e => rfl
  case box e x => simp only [core]; rw [hx x (by simp [Op.operands])]
  case store t a x => simp only [core]; rw [hx a (by simp [Op.operands]), hx x (by simp [Op.operands])]
  case assign x => simp only [core]; rw [hx x (by simp [Op.operands])]
  case buildSlice t len parts => simp only [core]; rw [evalParts_env parts.toList fun q hq => hx q.2 (by simp only [Op.operands, List.mem_map]; exact ⟨q, hq, rfl⟩)]
  case makeSlice t l c => simp only [core]; rw [hx l (by simp [Op.operands]), hx c (by simp [Op.operands])]
  case convert s d x => simp only [core]; rw [hx x (by simp [Op.operands])]
  case pick c a b => simp only [core, pureOp]; rw [hx c (by simp [Op.operands]), hx a (by simp [Op.operands]), hx b (by simp [Op.operands])]
  case build t parts => simp only [core, pureOp]; rw [evalParts_env parts.toList fun q hq => hx q.2 (by simp only [Op.operands, List.mem_map]; exact ⟨q, hq, rfl⟩)]
  case nilCheck x => simp only [core, pureOp]; rw [hx x (by simp [Op.operands])]
  case binOp op t x y ty => simp only [core, pureOp]; rw [hx x (by simp [Op.operands]), hx y (by simp [Op.operands])]
  case unOp op t x => simp only [core, pureOp]; rw [hx x (by simp [Op.operands])]
  case makeInterface t x => simp only [core, pureOp]; rw [hx x (by simp [Op.operands])]
  case makeFunc f first captured =>
    have : evalL env captured.toList = evalL env' captured.toList := evalL_env _ fun q hq => hx q (by simp [Op.operands]; exact .inr (by simpa using hq))
    cases f <;> simp only [core, pureOp]
    rw [this]
  case slice t x l hh m => simp only [core, pureOp]; rw [hx x (by simp [Op.operands]), optA_env l fun y e => hx y (by simp [Op.operands, e]), optA_env hh fun y e => hx y (by simp [Op.operands, e]), optA_env m fun y e => hx y (by simp [Op.operands, e])]
  case fieldAddr s x f => simp only [core, pureOp]; rw [hx x (by simp [Op.operands])]
  case field t x f => simp only [core, pureOp]; rw [hx x (by simp [Op.operands])]
  case indexAddr t x i => simp only [core, pureOp]; rw [hx x (by simp [Op.operands]), hx i (by simp [Op.operands])]
  case index t x i => simp only [core, pureOp]; rw [hx x (by simp [Op.operands]), hx i (by simp [Op.operands])]
  case extract t i => simp only [core, pureOp]; rw [hx t (by simp [Op.operands])]
  case call c =>
    obtain ⟨callee, args, at_⟩ := c
    simp only [Op.operands, Call.operands] at hs hx
    have hargs : ∀ x ∈ args.toList, evalO env x = evalO env' x := fun x hm => hx x (by simp; exact .inr (by simpa using hm))
    cases callee with
    | value f => simp only [core]; rw [hx f (by simp), evalL_env _ hargs]
    | invoke r name => simp only [core]; rw [hx r (by simp), evalL_env _ hargs]
    | builtin b =>
      cases b
      case append =>
        simp only [core]
        split
        · rename_i s x ts tx e1 e2
          rw [e1] at hargs
          unfold appendA
          rw [hargs s (by simp), hargs x (by simp)]
        · rfl
      case len =>
        simp only [core, pureOp]
        split
        · rename_i x t e1 e2
          rw [e1] at hargs
          rw [hargs x (by simp)]
        · rfl
      all_goals rfl
  case typeAssert x a b c => simp only [core, pureOp]; rw [hx x (by simp [Op.operands])]
  all_goals rfl

end
end Go.Proofs.YtecdcnacjlcjoaaDoor.Am

/- The abstract machine is right, seventeenth part: operations that ask neither for the heap nor for the ends. -/
namespace Go.Proofs.YtecdcnacjlcjoaaDoor.Am
set_option linter.unusedVariables false
set_option linter.unusedSimpArgs false
open Go.RowKit

section
variable {P : Program} {call : CallA} {ops : List Oper}

theorem plain_some {H : List (Option Blk)} {own : List Loc} {x : Option AV} {r : Res} (h : plainRes H own x = some r) : ∃ v, x = some v ∧ r = ⟨v, H, own, false⟩ := by
  cases x with
  | none => cases h
  | some v => injection h with h; exact ⟨v, rfl, h.symm⟩

/-- It leaves the ends, and does not ask for them. -/
theorem core_own {env : List (Nat × AV)} {H : List (Option Blk)} {own : List Loc} {o : Oper} {r : Res} (he : ends ops o = false) (h : core call P ops o env H own = some r) :
    r.own = own ∧ ∀ own', core call P ops o env H own' = some ⟨r.val, r.H, own', r.gives⟩ := by
  have fin : ∀ x : Option AV, core call P ops o env H own = plainRes H own x → (∀ own', core call P ops o env H own' = plainRes H own' x) → r.own = own ∧ ∀ own', core call P ops o env H own' = some ⟨r.val, r.H, own', r.gives⟩ := by
    intro x h1 h2
    obtain ⟨v, rfl, rfl⟩ := plain_some (h1.symm.trans h)
    exact ⟨rfl, fun own' => h2 own'⟩
  obtain ⟨dst, op, ty, pos, after, guard⟩ := o
  cases op
  case move x =>
    cases x with
    | tmp s =>
      simp only [ends] at he
      simp only [core, he, Bool.and_false, cond_false] at h ⊢
      injection h with h; subst h
      exact ⟨rfl, fun _ => rfl⟩
    | const v => exact fin _ rfl fun _ => rfl
    | func v => exact fin _ rfl fun _ => rfl
    | global v => exact fin _ rfl fun _ => rfl
  case load t a =>
    simp only [ends] at he
    simp only [core, he, Bool.and_false, Bool.false_and, cond_false] at h ⊢
    cases ha : evalO env a with
    | none => rw [ha] at h; cases h
    | some p =>
      rw [ha] at h
      simp only at h ⊢
      cases hl : loadA P H t p with
      | none => rw [hl] at h; cases h
      | some x =>
        rw [hl] at h
        simp only at h ⊢
        cases p <;> (simp only at h ⊢; injection h with h; subst h; exact ⟨rfl, fun _ => rfl⟩)
  case alloc e =>
    simp only [core] at h ⊢
    cases hz : zeroT P e with
    | none => rw [hz] at h; cases h
    | some z =>
      rw [hz] at h
      simp only at h ⊢
      split at h
      · rename_i hc; injection h with h; subst h; exact ⟨rfl, fun _ => by rw [if_pos hc]⟩
      · cases h
  case box e x =>
    simp only [core] at h ⊢
    cases hz : evalO env x with
    | none => rw [hz] at h; cases h
    | some z =>
      rw [hz] at h
      simp only at h ⊢
      split at h
      · injection h with h; subst h; exact ⟨rfl, fun _ => by split <;> first | rfl | contradiction⟩
      · cases h
  case store t a x => cases he
  case assign x => cases he
  case buildSlice t len parts =>
    simp only [core] at h ⊢
    split at h
    · rename_i e ps h1 h2
      split at h
      · rename_i sz z h3 h4
        split at h
        · rename_i hc
          split at h
          · rename_i cs h5
            split at h
            · rename_i xs h6
              injection h with h; subst h
              exact ⟨rfl, fun _ => by simp only [h1, h2, h3, h4, if_pos hc, h5, h6]⟩
            · cases h
          · cases h
        · cases h
      · cases h
    · cases h
  case makeSlice t l c =>
    simp only [core] at h ⊢
    split at h
    · rename_i e n c h1 h2 h3
      split at h
      · rename_i n' c' i z h4 h5 h6 h7
        split at h
        · rename_i hc
          split at h
          · rename_i x h8
            injection h with h; subst h
            exact ⟨rfl, fun _ => by simp only [h1, h2, h3, h4, h5, h6, h7, if_pos hc, h8]⟩
          · cases h
        · cases h
      · cases h
    · cases h
  case convert s d x =>
    simp only [core] at h ⊢
    split at h
    · rename_i e q h1 h2 h3
      split at h
      · rename_i h4 h5
        injection h with h; subst h
        exact ⟨rfl, fun _ => by simp only [h4, h5]⟩
      · cases h
    · rename_i e e' xs sp h1 h2 h3
      split at h
      · rename_i h4
        split at h
        · rename_i h5
          obtain ⟨v, hv, rfl⟩ := plain_some h
          exact ⟨rfl, fun _ => by simp only [h4, h5, if_true, hv]; rfl⟩
        · cases h
      · cases h
    · rename_i e h1 h2 h3
      split at h
      · rename_i h4
        injection h with h; subst h
        exact ⟨rfl, fun _ => by simp only [h4]⟩
      · cases h
    · rename_i a h1 n1 n2 n3
      obtain ⟨v, hv, rfl⟩ := plain_some h
      refine ⟨rfl, fun own' => ?_⟩
      rw [hv]; rfl
    · cases h
  case call c =>
    obtain ⟨callee, args, at_⟩ := c
    cases callee with
    | value f => cases he
    | invoke r name => cases he
    | builtin b =>
      cases b
      case append => cases he
      all_goals exact fin _ rfl fun _ => rfl
  all_goals exact fin _ rfl fun _ => rfl

/-- It leaves the heap, and asks at most for what a pointer points to. -/
theorem core_heapC {env : List (Nat × AV)} {H : List (Option Blk)} {own : List Loc} {o : Oper} {r : Res} (hh : heapC o = false) (ha : allocOp o = false) (h : core call P ops o env H own = some r) :
    r.H = H ∧ ∀ H', (∀ t a id off, o.op = .load t a → evalO env a = some (.ptr id off) → H'[id]? = H[id]?) → core call P ops o env H' own = some ⟨r.val, H', r.own, r.gives⟩ := by
  have fin : ∀ x : Option AV, core call P ops o env H own = plainRes H own x → (∀ H', core call P ops o env H' own = plainRes H' own x) → r.H = H ∧ ∀ H', (∀ t a id off, o.op = .load t a → evalO env a = some (.ptr id off) → H'[id]? = H[id]?) → core call P ops o env H' own = some ⟨r.val, H', r.own, r.gives⟩ := by
    intro x h1 h2
    obtain ⟨v, rfl, rfl⟩ := plain_some (h1.symm.trans h)
    exact ⟨rfl, fun H' _ => h2 H'⟩
  obtain ⟨dst, op, ty, pos, after, guard⟩ := o
  cases op
  case move x =>
    cases x with
    | tmp s =>
      simp only [core] at h ⊢
      injection h with h; subst h
      cases (owns own (.slot s) && appDst ops dst) <;> exact ⟨rfl, fun _ _ => rfl⟩
    | const v => exact fin _ rfl fun _ => rfl
    | func v => exact fin _ rfl fun _ => rfl
    | global v => exact fin _ rfl fun _ => rfl
  case load t a =>
    simp only [core] at h ⊢
    cases hp : evalO env a with
    | none => rw [hp] at h; cases h
    | some p =>
      rw [hp] at h
      simp only at h ⊢
      cases hl : loadA P H t p with
      | none => rw [hl] at h; cases h
      | some x =>
        rw [hl] at h
        have key : ∀ H' : List (Option Blk), (∀ (t_1 : TypeId) (a_1 : Operand) (id off : Nat), (Op.load t a = Op.load t_1 a_1) → evalO env a_1 = some (AV.ptr id off) → H'[id]? = H[id]?) → loadA P H' t p = some x := by
          intro H' hyp
          rw [← hl]
          unfold loadA
          split
          · cases p <;> simp only
            rename_i id off
            have := hyp t a id off rfl hp
            unfold readCells
            rw [this]
          · rfl
        simp only at h ⊢
        cases p with
        | ptr id off =>
          simp only at h ⊢
          refine ⟨?_, fun H' hyp => ?_⟩
          · injection h with h; subst h
            cases (owns own (.cell id off) && appDst ops dst && (sizeT P t == some 1) && (isAggT P t == some false)) <;> rfl
          · rw [key H' hyp]
            simp only
            injection h with h; subst h
            cases (owns own (.cell id off) && appDst ops dst && (sizeT P t == some 1) && (isAggT P t == some false)) <;> rfl
        | _ =>
          simp only at h ⊢
          injection h with h; subst h
          exact ⟨rfl, fun H' hyp => by rw [key H' hyp]⟩
  case alloc e => cases ha
  case box e x => cases ha
  case store t a x => cases hh
  case assign x =>
    simp only [core] at h ⊢
    cases hv : evalO env x with
    | none => rw [hv] at h; cases h
    | some v =>
      rw [hv] at h
      cases x with
      | tmp s =>
        simp only at h ⊢
        injection h with h; subst h
        cases owns own (.slot s) <;> exact ⟨rfl, fun _ _ => rfl⟩
      | _ =>
        simp only at h ⊢
        injection h with h; subst h
        exact ⟨rfl, fun _ _ => rfl⟩
  case buildSlice t len parts =>
    simp only [core] at h ⊢
    split at h
    · rename_i e ps h1 h2
      split at h
      · rename_i sz z h3 h4
        split at h
        · rename_i hc
          split at h
          · rename_i cs h5
            split at h
            · rename_i xs h6
              injection h with h; subst h
              exact ⟨rfl, fun H' _ => by simp only [h1, h2, h3, h4, if_pos hc, h5, h6]⟩
            · cases h
          · cases h
        · cases h
      · cases h
    · cases h
  case makeSlice t l c =>
    simp only [core] at h ⊢
    split at h
    · rename_i e n c h1 h2 h3
      split at h
      · rename_i n' c' i z h4 h5 h6 h7
        split at h
        · rename_i hc
          split at h
          · rename_i x h8
            injection h with h; subst h
            exact ⟨rfl, fun H' _ => by simp only [h1, h2, h3, h4, h5, h6, h7, if_pos hc, h8]⟩
          · cases h
        · cases h
      · cases h
    · cases h
  case convert s d x =>
    simp only [core] at h ⊢
    split at h
    · rename_i e q h1 h2 h3
      split at h
      · rename_i h4 h5
        injection h with h; subst h
        exact ⟨rfl, fun _ _ => by simp only [h4, h5]⟩
      · cases h
    · rename_i e e' xs sp h1 h2 h3
      split at h
      · rename_i h4
        split at h
        · rename_i h5
          obtain ⟨v, hv, rfl⟩ := plain_some h
          exact ⟨rfl, fun _ _ => by simp only [h4, h5, if_true, hv]; rfl⟩
        · cases h
      · cases h
    · rename_i e h1 h2 h3
      split at h
      · rename_i h4
        injection h with h; subst h
        exact ⟨rfl, fun _ _ => by simp only [h4]⟩
      · cases h
    · rename_i a h1 n1 n2 n3
      obtain ⟨v, hv, rfl⟩ := plain_some h
      refine ⟨rfl, fun H' _ => ?_⟩
      rw [hv]; rfl
    · cases h
  case call c =>
    obtain ⟨callee, args, at_⟩ := c
    cases callee with
    | value f => cases hh
    | invoke r name => cases hh
    | builtin b =>
      cases b
      case append =>
        simp only [core] at h ⊢
        split at h
        · rename_i s x ts tx h1 h2
          unfold appendA at h ⊢
          split at h
          · rename_i e a b h3 h4 h5
            split at h
            · rename_i ys i z h6 h7 h8
              split at h
              · split at h
                · rename_i hc
                  injection h with h; subst h
                  exact ⟨rfl, fun H' _ => by simp only [h3, h4, h5, h6, h7, h8, if_pos hc]⟩
                · cases h
              · split at h
                · split at h
                  · rename_i hc
                    injection h with h; subst h
                    exact ⟨rfl, fun H' _ => by simp only [h3, h4, h5, h6, h7, h8, if_pos hc]⟩
                  · cases h
                · cases h
              · cases h
            · cases h
          · cases h
        · cases h
      all_goals exact fin _ rfl fun _ => rfl
  all_goals exact fin _ rfl fun _ => rfl

/-- No slot becomes one's own but that which the value is put in. -/
theorem heapC_of {o : Oper} (h : heapOp o = false) : heapC o = false := by
  obtain ⟨dst, op, ty, pos, after, guard⟩ := o
  cases op
  case store => cases h
  case call c =>
    obtain ⟨callee, args, at_⟩ := c
    cases callee with
    | value f => cases h
    | invoke r n => cases h
    | builtin b => rfl
  all_goals rfl
theorem core_heap {env : List (Nat × AV)} {H : List (Option Blk)} {own : List Loc} {o : Oper} {r : Res} (hh : heapOp o = false) (ha : allocOp o = false) (h : core call P ops o env H own = some r) :
    r.H = H ∧ ∀ H', (∀ t a id off, o.op = .load t a → evalO env a = some (.ptr id off) → H'[id]? = H[id]?) → core call P ops o env H' own = some ⟨r.val, H', r.own, r.gives⟩ := core_heapC (heapC_of hh) ha h
/-! ### ends that are as good as each other -/
def Like (S : Nat → Prop) (own own' : List Loc) : Prop := ∀ l, (∀ s, l = .slot s → ¬ S s) → (l ∈ own ↔ l ∈ own')
theorem like_owns {S : Nat → Prop} {own own' : List Loc} {l : Loc} (h : Like S own own') (hl : ∀ s, l = .slot s → ¬ S s) : owns own l = owns own' l := by
  rw [Bool.eq_iff_iff, owns_iff, owns_iff]; exact h l hl
theorem Like.drop {S : Nat → Prop} {own own' : List Loc} (h : Like S own own') (l : Loc) : Like S (Am.drop own l) (Am.drop own' l) := by
  intro m hm; rw [mem_drop, mem_drop, h m hm]
theorem Like.give {S : Nat → Prop} {own own' : List Loc} (h : Like S own own') (l : Loc) : Like S (Am.give own l) (Am.give own' l) := by
  intro m hm; rw [mem_give, mem_give, h m hm]
theorem Like.cells {S : Nat → Prop} {own own' : List Loc} (h : Like S own own') (id off n : Nat) : Like S (dropCells own id off n) (dropCells own' id off n) := by
  intro m hm; unfold dropCells; rw [List.mem_filter, List.mem_filter, h m hm]

/-- What 'core' answers with the one, it answers with the other. -/
theorem core_frame {S : Nat → Prop} {env : List (Nat × AV)} {H : List (Option Blk)} {own own' : List Loc} {o : Oper} {r : Res} (hS : ∀ s, S s → s ∉ opSlots o) (hl : Like S own own') (h : core call P ops o env H own = some r) :
    ∃ oo, core call P ops o env H own' = some ⟨r.val, r.H, oo, r.gives⟩ ∧ Like S r.own oo ∧ ∀ s, S s → (Loc.slot s ∈ r.own ↔ Loc.slot s ∈ own) ∧ (Loc.slot s ∈ oo ↔ Loc.slot s ∈ own') := by
  cases he : ends ops o with
  | false =>
    obtain ⟨h1, h2⟩ := core_own he h
    exact ⟨own', h2 own', h1 ▸ hl, fun s _ => ⟨by rw [h1], Iff.rfl⟩⟩
  | true =>
    have hcell : ∀ id off, ∀ s, Loc.cell id off = .slot s → ¬ S s := fun id off s e => by cases e
    have hdropS : ∀ (l : Loc) (oo : List Loc), (∀ s, l = .slot s → ¬ S s) → ∀ s, S s → (Loc.slot s ∈ drop oo l ↔ Loc.slot s ∈ oo) := by
      intro l oo hl s hs
      rw [mem_drop]
      exact ⟨fun h => h.1, fun h => ⟨h, fun e => hl s e.symm hs⟩⟩
    have hcellS : ∀ (oo : List Loc) id off n, ∀ s, S s → (Loc.slot s ∈ dropCells oo id off n ↔ Loc.slot s ∈ oo) := by
      intro oo id off n s hs
      unfold dropCells
      rw [List.mem_filter]
      exact ⟨fun h => h.1, fun h => ⟨h, rfl⟩⟩
    have hcallA : ∀ f args, callA call P H own f args = some r → ∃ oo, callA call P H own' f args = some ⟨r.val, r.H, oo, r.gives⟩ ∧ Like S r.own oo ∧ ∀ s, S s → (Loc.slot s ∈ r.own ↔ Loc.slot s ∈ own) ∧ (Loc.slot s ∈ oo ↔ Loc.slot s ∈ own') := by
      intro f args hc
      unfold callA at hc ⊢
      cases hb : hasBody P f with
      | false => rw [hb] at hc; cases hc
      | true =>
        rw [hb] at hc
        simp only [cond_true] at hc ⊢
        have hcan : canon (own.filter Loc.isCell) = canon (own'.filter Loc.isCell) := by
          refine canon_ext fun x => ?_
          rw [List.mem_filter, List.mem_filter]
          cases x with
          | slot s => simp [Loc.isCell]
          | cell id off => rw [hl _ (hcell id off)]
        rw [← hcan]
        split at hc
        · rename_i x H' own1 hcl
          injection hc with hc; subst hc
          refine ⟨_, rfl, ?_, ?_⟩
          · intro m hm
            simp only [List.mem_append, List.mem_filter, hl m hm]
          · intro s hs
            have key : ∀ oo : List Loc, (Loc.slot s ∈ oo.filter (fun l => !l.isCell) ++ own1.filter Loc.isCell ↔ Loc.slot s ∈ oo) := by
              intro oo
              rw [List.mem_append, List.mem_filter, List.mem_filter]
              simp [Loc.isCell]
            exact ⟨key own, key own'⟩
        · cases hc
    obtain ⟨dst, op, ty, pos, after, guard⟩ := o
    have hop : ∀ s, .tmp s ∈ op.operands.toList → ∀ q, Loc.slot s = .slot q → ¬ S q := by
      intro s hm q e hq
      injection e with e; subst e
      exact hS s hq (by unfold opSlots; exact List.mem_filterMap.2 ⟨_, hm, rfl⟩)
    cases op
    case move x =>
      cases x with
      | tmp v =>
        have hv := hop v (by simp [Op.operands])
        simp only [core] at h ⊢
        rw [← like_owns hl hv]
        injection h with h; subst h
        cases hb : (owns own (.slot v) && appDst ops dst)
        · exact ⟨_, rfl, hl, fun s _ => ⟨Iff.rfl, Iff.rfl⟩⟩
        · exact ⟨_, rfl, hl.drop _, fun s hs => ⟨hdropS _ _ hv s hs, hdropS _ _ hv s hs⟩⟩
      | _ => cases he
    case load t a =>
      simp only [core] at h ⊢
      cases hp : evalO env a with
      | none => rw [hp] at h; cases h
      | some p =>
        rw [hp] at h
        simp only at h ⊢
        cases hld : loadA P H t p with
        | none => rw [hld] at h; cases h
        | some x =>
          rw [hld] at h
          simp only at h ⊢
          cases p with
          | ptr id off =>
            simp only at h ⊢
            rw [← like_owns hl (hcell id off)]
            injection h with h; subst h
            cases hb : (owns own (.cell id off) && appDst ops dst && (sizeT P t == some 1) && (isAggT P t == some false))
            · exact ⟨_, rfl, hl, fun s _ => ⟨Iff.rfl, Iff.rfl⟩⟩
            · exact ⟨_, rfl, hl.drop _, fun s hs => ⟨hdropS _ _ (hcell id off) s hs, hdropS _ _ (hcell id off) s hs⟩⟩
          | _ =>
            simp only at h ⊢
            injection h with h; subst h
            exact ⟨_, rfl, hl, fun s _ => ⟨Iff.rfl, Iff.rfl⟩⟩
    case assign x =>
      simp only [core] at h ⊢
      cases hv : evalO env x with
      | none => rw [hv] at h; cases h
      | some v =>
        rw [hv] at h
        cases x with
        | tmp s' =>
          have hs' := hop s' (by simp [Op.operands])
          simp only at h ⊢
          rw [← like_owns hl hs']
          injection h with h; subst h
          cases hb : owns own (.slot s')
          · exact ⟨_, rfl, hl, fun s _ => ⟨Iff.rfl, Iff.rfl⟩⟩
          · exact ⟨_, rfl, hl.drop _, fun s hs => ⟨hdropS _ _ hs' s hs, hdropS _ _ hs' s hs⟩⟩
        | _ =>
          simp only at h ⊢
          injection h with h; subst h
          exact ⟨_, rfl, hl, fun s _ => ⟨Iff.rfl, Iff.rfl⟩⟩
    case store t a x =>
      simp only [core] at h ⊢
      split at h
      · rename_i id off v h1 h2
        split at h
        · rename_i H' h3
          injection h with h; subst h
          simp only [h3]
          cases x with
          | tmp q =>
            have hq := hop q (by simp [Op.operands])
            simp only
            rw [← like_owns hl hq]
            cases hb : (owns own (.slot q) && v.isOne)
            · exact ⟨_, rfl, hl.cells _ _ _, fun s hs => ⟨hcellS _ _ _ _ s hs, hcellS _ _ _ _ s hs⟩⟩
            · refine ⟨_, rfl, ((hl.cells _ _ _).drop _).give _, fun s hs => ?_⟩
              have key : ∀ oo : List Loc, (Loc.slot s ∈ give (drop (dropCells oo id off v.cells.length) (.slot q)) (.cell id off) ↔ Loc.slot s ∈ oo) := by
                intro oo
                rw [mem_give]
                constructor
                · rintro (e | ⟨e, _⟩)
                  · cases e
                  · exact (hcellS _ _ _ _ s hs).1 ((hdropS _ _ hq s hs).1 e)
                · intro e
                  exact .inr ⟨(hdropS _ _ hq s hs).2 ((hcellS _ _ _ _ s hs).2 e), by intro e; cases e⟩
              exact ⟨key own, key own'⟩
          | _ => exact ⟨_, rfl, hl.cells _ _ _, fun s hs => ⟨hcellS _ _ _ _ s hs, hcellS _ _ _ _ s hs⟩⟩
        · cases h
      · cases h
    case call c =>
      obtain ⟨callee, args, at_⟩ := c
      cases callee with
      | value f =>
        simp only [core] at h ⊢
        split at h
        · exact hcallA _ _ h
        · cases h
      | invoke rv name =>
        simp only [core] at h ⊢
        split at h
        · split at h
          · exact hcallA _ _ h
          · cases h
        · cases h
      | builtin b =>
        cases b
        case append =>
          simp only [core] at h ⊢
          split at h
          · rename_i s x ts tx ha hb
            have hs' : ∀ t, s = .tmp t → ∀ q, Loc.slot t = .slot q → ¬ S q := fun t e => hop t (by simp only [Op.operands, Call.operands, Array.toList_append, ha, e]; simp)
            unfold appendA at h ⊢
            split at h
            · rename_i e a b h3 h4 h5
              split at h
              · rename_i ys i z h6 h7 h8
                split at h
                · split at h
                  · rename_i hc
                    injection h with h; subst h
                    refine ⟨_, by simp only [h6, h7, h8, if_pos hc]; rfl, ?_, ?_⟩
                    · cases s <;> first | exact hl | exact hl.drop _
                    · intro q hq
                      cases s with
                      | tmp t => exact ⟨hdropS _ _ (hs' t rfl) q hq, hdropS _ _ (hs' t rfl) q hq⟩
                      | _ => exact ⟨Iff.rfl, Iff.rfl⟩
                  · cases h
                · split at h
                  · rename_i t
                    split at h
                    · rename_i hc
                      injection h with h; subst h
                      refine ⟨_, by simp only [h6, h7, h8]; rw [← like_owns hl (hs' t rfl)]; simp only [if_pos hc], hl.drop _, fun s hs => ⟨hdropS _ _ (hs' t rfl) s hs, hdropS _ _ (hs' t rfl) s hs⟩⟩
                    · cases h
                  · cases h
                · cases h
              · cases h
            · cases h
          · cases h
        all_goals cases he
    all_goals cases he

end
end Go.Proofs.YtecdcnacjlcjoaaDoor.Am
