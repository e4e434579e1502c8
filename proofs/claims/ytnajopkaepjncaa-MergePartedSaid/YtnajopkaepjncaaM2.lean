/- The abstract machine is right, eleventh part: stores. -/
import Derived.Test.YtnajopkaepjncaaM1
import Derived.Orders
import Derived.Test.YtnajopkaepjncaaProg
import Derived.Test.YtnajopkaepjncaaChecked
/- The abstract machine is right, eleventh part: stores. -/
namespace Go.Proofs.Ytnajopkaepjncaa.Am
set_option linter.unusedVariables false
set_option linter.unusedSimpArgs false
open Go.RowKit

section
variable {P : Program} {w : World}

/-- A block of the machine's is written: all else stays. -/
theorem store_ext {G : Gh} (g : GOk G w) {id b : Nat} (hf : G.f id = some b) (hl : G.lim b = 0) (cs : Array Value) : Ext G w G (w.setRow b cs) where
  os := rfl
  tape := rfl
  output := rfl
  size := by simp
  prot := by
    intro k o q hq
    have hk : k ≠ b := by
      rintro rfl
      unfold pmOf at hq
      rw [hl] at hq
      simp at hq
    unfold pmOf at hq ⊢
    split at hq
    · rename_i h; rw [if_pos h, World.cell?_of_block (setRow_other w b k cs hk)]; exact hq
    · cases hq
  f := fun _ _ h => h
  bs := fun _ => Nat.le_refl _
  foreign := by
    intro k hk hn
    have hkb : k ≠ b := by rintro rfl; exact hn (.inl ⟨id, hf⟩)
    exact ⟨setRow_other w b k cs hkb, rfl, hn⟩
theorem store_gok {G : Gh} (g : GOk G w) (b : Nat) (cs : Array Value) : GOk G (w.setRow b cs) where
  fin := fun id k h => by simpa using g.fin id k h
  new := fun k hk => g.new k (by simpa using hk)

theorem own_setRow {G : Gh} (g : GOk G w) {id b : Nat} (hf : G.f id = some b) (es : Array Value) (l : Loc) (y : AV) (u : Value) (r : OwnAt P G w l y u) : OwnAt P G (w.setRow b es) l y u := by
  intro e xs hx
  obtain ⟨sz, cells, h1, h2, h3, h4⟩ := r e xs hx
  refine ⟨sz, cells, h1, h2, h3.kept ⟨rfl, rfl, rfl, by simp, fun i _ hi => setRow_other w b i es (fun e => hi (by rw [e]))⟩ (row := some b) ?_, h4⟩
  cases hu : u.ownBlock with
  | none => exact .inl rfl
  | some q =>
    refine .inr ?_
    intro e
    injection e with e
    subst e
    have := (h4 q hu).1
    rw [(g.fin id q hf).2] at this
    cases this
theorem splice_cells {M : Mem} {cs : List AV} {ds : Array Value} (hsz : cs.length ≤ ds.size) (h : ∀ j, j < cs.length → Rep P M (cs.getD j .undef) (ds.getD j undef)) (h1 : ∀ j, j < cs.length → (ds.getD j undef).oneCell' = true)
    {xs : List AV} {us : Array Value} (hx : CellsRep P M xs us) (off : Nat) (hl : off + xs.length ≤ cs.length) :
    ∀ j, j < (splice cs off xs).length → Rep P M ((splice cs off xs).getD j .undef) (((ds.toList.take off ++ us.toList ++ ds.toList.drop (off + us.toList.length)).toArray).getD j undef) ∧
      (((ds.toList.take off ++ us.toList ++ ds.toList.drop (off + us.toList.length)).toArray).getD j undef).oneCell' = true := by
  intro j hj
  rw [length_splice _ _ _ hl] at hj
  have hus : us.toList.length = xs.length := by rw [Array.length_toList, hx.size]
  have key : ((ds.toList.take off ++ us.toList ++ ds.toList.drop (off + us.toList.length)).toArray).getD j undef = if off ≤ j ∧ j < off + xs.length then us.getD (j - off) undef else ds.getD j undef := by
    have ht : (ds.toList.take off).length = off := by simp; omega
    simp only [Array.getD_eq_getD_getElem?, List.getElem?_toArray]
    by_cases h2 : j < off
    · rw [List.append_assoc, List.getElem?_append_left (by omega), List.getElem?_take, if_pos h2, if_neg (by omega), Array.getElem?_toList]
    · by_cases h3 : j < off + xs.length
      · rw [List.append_assoc, List.getElem?_append_right (by omega), List.getElem?_append_left (by omega), ht, if_pos (by omega), Array.getElem?_toList]
      · rw [List.getElem?_append_right (by rw [List.length_append]; omega), if_neg (by omega), List.length_append, ht, List.getElem?_drop, Array.getElem?_toList]
        congr 2; omega
  rw [key, getD_splice _ _ _ _ hl]
  by_cases hin : off ≤ j ∧ j < off + xs.length
  · rw [if_pos hin, if_pos hin]; exact ⟨hx.at_ _ (by omega), hx.one _ (by omega)⟩
  · rw [if_neg hin, if_neg hin]; exact ⟨h j hj, h1 j hj⟩

theorem mem_dropCells {own : List Loc} {id off n : Nat} {l : Loc} (h : l ∈ dropCells own id off n) : l ∈ own ∧ ∀ i o, l = .cell i o → i = id → ¬ (off ≤ o ∧ o < off + n) := by
  unfold dropCells at h
  rw [List.mem_filter] at h
  refine ⟨h.1, ?_⟩
  rintro i o rfl rfl ⟨h1, h2⟩
  have h3 := h.2
  have e1 : Nat.ble off o = true := Nat.ble_eq_true_of_le h1
  have e2 : Nat.blt o (off + n) = true := (by rw [Nat.blt_eq]; exact h2)
  have e3 : Nat.beq i i = true := Nat.beq_refl i
  simp only [e1, e2, e3] at h3
  cases h3

theorem one_cells {x : AV} (h : x.isOne = true) : x.cells = [x] := by cases x <;> simp [AV.isOne] at h <;> rfl
theorem one_cells_val {M : Mem} {x : AV} {v : Value} (h : x.isOne = true) (r : Rep P M x v) : v.cells = #[v] := by
  cases r <;> simp [AV.isOne] at h <;> rfl

/-- A store, all of it. -/
theorem store_sound {G : Gh} {env : List (Nat × AV)} {H H' : List (Option Blk)} {own : List Loc} {tt : Nat → Value} (g : GOk G w) (hH : HeapRel P G H w) (ow : Owns P G env H own tt w) {t : TypeId} {id off : Nat} {x : AV} {p v : Value} {xo : Operand} {d : Nat}
    (h : storeA P H t (.ptr id off) x = some H') (rp : Rep P (G.mem w) (.ptr id off) p) (rx : Rep P (G.mem w) x v) (hxo : ∀ s, xo = .tmp s → x = look env s ∧ v = tt s) :
    ∃ w' G', (Instr.storeAt t p v).run P w = .ok () w' ∧ Done P G w env tt ⟨.tup [], H',
      (match xo with
       | .tmp s => cond (owns own (.slot s) && x.isOne) (give (drop (dropCells own id off x.cells.length) (.slot s)) (.cell id off)) (dropCells own id off x.cells.length)
       | _ => dropCells own id off x.cells.length), false⟩ d undef w' G' := by
  unfold storeA at h
  split at h
  case h_2 => cases h
  rename_i id' off' n hid hs
  injection hid with hid hoff
  subst hid; subst hoff
  split at h
  case h_2 => cases h
  rename_i k hk
  split at h
  case isFalse => cases h
  rename_i hc
  obtain ⟨c1, c2, c3⟩ := hc
  injection h with h; subst h
  cases rp with
  | ptr _ _ b hf =>
    change G.f id = some b at hf
    obtain ⟨ds, hd, hsz, hbs, hrep, hone⟩ := hH.blk id b k hf hk
    have hxc := cells_of rx (by omega)
    have husz : v.cells.toList.length = n := by rw [Array.length_toList, hxc.size, c1]
    have hlt : id < H.length := (hH.dom id b hf).lt
    obtain ⟨es, hes⟩ : ∃ es, es = (ds.toList.take off ++ v.cells.toList ++ ds.toList.drop (off + v.cells.toList.length)).toArray := ⟨_, rfl⟩
    have hess : es.size = ds.size := by
      rw [hes]; simp only [List.size_toArray, List.length_append, List.length_take, List.length_drop, Array.length_toList] at husz ⊢; omega
    have hrun : (Instr.storeAt t (.pointer (some ⟨b, off, none⟩)) v).run P w = .ok () (w.setRow b es) := by
      have hone' : ∀ u ∈ v.cells.toList, u.oneCell' = true := by
        intro u hu
        obtain ⟨j, hj, rfl⟩ := List.mem_iff_getElem.1 hu
        have := hxc.one j (by rw [c1, ← husz]; exact hj)
        simp only [Array.length_toList] at hj
        simpa [Array.getD_eq_getD_getElem?, hj] using this
      have hst := run_storeCells_at P b off k.e v.cells.toList 0 ds w hd (by rw [husz]; omega) hone'
      simp only [Nat.add_zero] at hst
      rw [hes]
      have hvs : ¬ (v.cells.size ≠ n) := by rw [hxc.size, c1]; simp
      simp only [Instr.storeAt, Instr.sureAddr, storeVar, Sem.run_bind, Sem.run_pure, Result.andThen_ok, run_sizeT hs, if_neg hvs, hst]
    have hkne : k.cs ≠ [] := by intro e; rw [e] at c3; simp only [List.length_nil] at c3; omega
    have hext := store_ext g hf (hH.lim id b k hf hk hkne) es
    have hgok := store_gok g b es
    have hnew : (w.setRow b es).heap[b]? = some (.cells es k.e (0, 0)) := setRow_heap w b ds es k.e (0, 0) hd
    have hoth : ∀ q, q ≠ b → (w.setRow b es).heap[q]? = w.heap[q]? := fun q hq => setRow_other w b q es hq
    have hsame : H[id]? = some (some k) := hk
    have hset : ∀ j q, (H.set id (some ⟨k.e, splice k.cs off x.cells⟩))[j]? = some (some q) → (j = id ∧ q = ⟨k.e, splice k.cs off x.cells⟩) ∨ (j ≠ id ∧ H[j]? = some (some q)) := by
      intro j q hj
      by_cases hji : j = id
      · subst hji
        rw [List.getElem?_set_self hlt] at hj
        injection hj with hj; injection hj with hj
        exact .inl ⟨rfl, hj.symm⟩
      · rw [List.getElem?_set_ne (fun e => hji e.symm)] at hj
        exact .inr ⟨hji, hj⟩
    have hinjb : ∀ j q k', G.f j = some q → H[j]? = some (some k') → j ≠ id → k'.cs ≠ [] → q ≠ b := by
      intro j q k' hj hk' hne hn e
      subst e
      exact hne (hH.inj j id q k' k hj hf hk' hk hn hkne)
    have hheap : HeapRel P G (H.set id (some ⟨k.e, splice k.cs off x.cells⟩)) (w.setRow b es) := by
      refine ⟨?_, ?_, ?_, ?_⟩
      · intro j q hj; exact (hH.dom j q hj).set _ _
      · intro j q k' hj hk'
        rcases hset j k' hk' with ⟨rfl, rfl⟩ | ⟨hne, hk'⟩
        · rw [hf] at hj; injection hj with hj; subst hj
          have hsp := splice_cells hsz hrep hone hxc off (by omega)
          refine ⟨es, hnew, ?_, ?_, ?_, ?_⟩
          · rw [length_splice _ _ _ (by omega), hess]; exact hsz
          · rw [hess]; exact hbs
          · intro j' hj'; rw [← hes] at hsp; exact hext.rep (hsp j' hj').1
          · intro j' hj'; rw [← hes] at hsp; exact (hsp j' hj').2
        · obtain ⟨ds', q1, q2, q3, q4, q5⟩ := hH.blk j q k' hj hk'
          by_cases hqb : q = b
          · subst hqb
            have hn : k'.cs = [] := by
              rcases List.eq_nil_or_concat k'.cs with h | ⟨_, _, h⟩
              · exact h
              · exact absurd rfl (hinjb j q k' hj hk' hne (by rw [h]; simp))
            rw [hd] at q1; injection q1 with q1; injection q1 with q1 q6
            refine ⟨es, by rw [← q6]; exact hnew, by rw [hn]; exact Nat.zero_le _, by rw [hess]; exact hbs, fun j' hj' => ?_, fun j' hj' => ?_⟩
            · rw [hn] at hj'; exact absurd hj' (Nat.not_lt_zero _)
            · rw [hn] at hj'; exact absurd hj' (Nat.not_lt_zero _)
          · exact ⟨ds', by rw [hoth q hqb]; exact q1, q2, q3, fun j' hj' => hext.rep (q4 j' hj'), q5⟩
      · intro i j q k1 k2 h1 h2 h3 h4 n1 n2
        rcases hset i k1 h3 with ⟨q1, q2⟩ | ⟨hn1, q1⟩ <;> rcases hset j k2 h4 with ⟨q3, q4⟩ | ⟨hn2, q3⟩
        · rw [q1, q3]
        · exact hH.inj i j q k k2 h1 h2 (by rw [q1]; exact hk) q3 hkne n2
        · exact hH.inj i j q k1 k h1 h2 q1 (by rw [q3]; exact hk) n1 hkne
        · exact hH.inj i j q k1 k2 h1 h2 q1 q3 n1 n2
      · intro j q k' hj hk' hn
        rcases hset j k' hk' with ⟨rfl, _⟩ | ⟨_, hk'⟩
        · exact hH.lim _ q k hj hk hkne
        · exact hH.lim j q k' hj hk' hn
    -- an end that is kept
    have hkeep : ∀ (l : Loc) (y : AV) (u : Value), OwnAt P G w l y u → OwnAt P G (w.setRow b es) l y u := by
      intro l y u r e xs hx
      obtain ⟨sz, cells, h1, h2, h3, h4⟩ := r e xs hx
      refine ⟨sz, cells, h1, h2, h3.kept ⟨rfl, rfl, rfl, by simp, fun i _ hi => hoth i (fun e => hi (by rw [e]))⟩ (row := some b) ?_, h4⟩
      cases hu : u.ownBlock with
      | none => exact .inl rfl
      | some q =>
        refine .inr ?_
        intro e
        injection e with e
        subst e
        have := (h4 q hu).1
        rw [(g.fin id q hf).2] at this
        cases this
    have hcellkeep : ∀ id' off' b' k' cs', Loc.cell id' off' ∈ own → (id' = id → ¬ (off ≤ off' ∧ off' < off + x.cells.length)) → G.f id' = some b' → (H.set id (some ⟨k.e, splice k.cs off x.cells⟩))[id']? = some (some k') → (w.setRow b es).heap[b']? = some (.cells cs' k'.e (0, 0)) →
        OwnAt P G (w.setRow b es) (.cell id' off') (k'.cs.getD off' .undef) (cs'.getD off' undef) := by
      intro id' off' b' k' cs' hm hne hf' hk' hb'
      rcases hset id' k' hk' with ⟨rfl, rfl⟩ | ⟨hn, hk'⟩
      · rw [hf] at hf'; injection hf' with hf'; subst hf'
        have hne := hne rfl
        rw [hnew] at hb'; injection hb' with hb'; injection hb' with hb'; subst hb'
        have e1 : (splice k.cs off x.cells).getD off' .undef = k.cs.getD off' .undef := by rw [getD_splice _ _ _ _ (by omega), if_neg hne]
        have e2 : es.getD off' undef = ds.getD off' undef := by
          rw [hes]
          have ht : (ds.toList.take off).length = off := by simp; omega
          simp only [Array.getD_eq_getD_getElem?, List.getElem?_toArray]
          by_cases h2 : off' < off
          · rw [List.append_assoc, List.getElem?_append_left (by omega), List.getElem?_take, if_pos h2, Array.getElem?_toList]
          · rw [List.getElem?_append_right (by rw [List.length_append]; omega), List.length_append, ht, List.getElem?_drop, Array.getElem?_toList]
            congr 2; omega
        rw [e1, e2]
        exact hkeep _ _ _ (ow.cell id' off' b k ds hm hf hk hd)
      · by_cases hke : k'.cs = []
        · rw [hke]; intro e xs hx; cases hx
        have hqb := hinjb id' b' k' hf' hk' hn hke
        rw [hoth b' hqb] at hb'
        exact hkeep _ _ _ (ow.cell id' off' b' k' cs' hm hf' hk' hb')
    have base : Done P G w env tt ⟨.tup [], H.set id (some ⟨k.e, splice k.cs off x.cells⟩), dropCells own id off x.cells.length, false⟩ d undef (w.setRow b es) G :=
      ⟨hext, hgok, hheap, .tup [] #[] rfl (fun i hi => by simp at hi), fun s _ hs => hkeep _ _ _ (ow.slot s (mem_dropCells hs).1),
        fun id' off' b' k' cs' hc hf' hk' hb' => hcellkeep id' off' b' k' cs' (mem_dropCells hc).1 (fun e => (mem_dropCells hc).2 _ _ rfl e) hf' hk' hb', fun h => (by cases h),
        fun id' off' hm => (ow.dom id' off' (mem_dropCells hm).1).set _ _⟩
    cases xo with
    | tmp s =>
      obtain ⟨hxs, hvs⟩ := hxo s rfl
      by_cases hcond : (owns own (.slot s) && x.isOne) = true
      · simp only [hcond, cond_true]
        rw [Bool.and_eq_true, owns_iff] at hcond
        obtain ⟨hos, hx1⟩ := hcond
        have hn1 : n = 1 := by rw [← c1, one_cells hx1]; rfl
        refine ⟨w.setRow b es, G.ren (.slot s) (.cell id off), hrun, ?_⟩
        refine ⟨hext.trans (ren_ext G _ _), ren_gok hgok _ _, ren_heap hheap _ _, .tup [] #[] rfl (fun i hi => by simp at hi), ?_, ?_, fun h => (by cases h), ?_⟩
        · intro s' _ hs'
          rw [mem_give] at hs'
          rcases hs' with hs' | ⟨hs', _⟩
          · cases hs'
          · rw [mem_drop] at hs'
            exact ren_own_ne (hkeep _ _ _ (ow.slot s' (mem_dropCells hs'.1).1)) hs'.2 _
        · intro id' off' b' k' cs' hc hf' hk' hb'
          rw [mem_give] at hc
          rcases hc with hc | ⟨hc, hne⟩
          · injection hc with q1 q2
            subst q1; subst q2
            have hf'' : G.f id' = some b' := hf'
            rw [hf] at hf''; injection hf'' with hf''; subst hf''
            rcases hset id' k' hk' with ⟨_, rfl⟩ | ⟨hn, _⟩
            · rw [hnew] at hb'; injection hb' with hb'; injection hb' with hb'; subst hb'
              have e1 : (splice k.cs off' x.cells).getD off' .undef = x := by
                rw [getD_splice _ _ _ _ (by omega), if_pos (by omega), Nat.sub_self, one_cells hx1]; rfl
              have e2 : es.getD off' undef = v := by
                have hv1 := one_cells_val hx1 rx
                have ht : (ds.toList.take off').length = off' := by simp; omega
                rw [hes, hv1]
                simp only [Array.getD_eq_getD_getElem?, List.getElem?_toArray]
                rw [List.append_assoc, List.getElem?_append_right (by omega), ht, Nat.sub_self]
                rfl
              rw [e1, e2, hxs, hvs]
              exact ren_own (hkeep _ _ _ (ow.slot s hos)) _
            · exact absurd rfl hn
          · rw [mem_drop] at hc
            exact ren_own_ne (hcellkeep id' off' b' k' cs' (mem_dropCells hc.1).1 (fun e => (mem_dropCells hc.1).2 _ _ rfl e) hf' hk' hb') hc.2 _
        · intro id' off' hm
          rcases mem_give.1 hm with hm | ⟨hm, _⟩
          · injection hm with q1 _; rw [q1]; exact Live.set ⟨k, hk⟩ _ _
          · exact (ow.dom id' off' (mem_dropCells (mem_drop.1 hm).1).1).set _ _
      · have : (owns own (.slot s) && x.isOne) = false := by simpa using hcond
        simp only [this, cond_false]
        exact ⟨_, _, hrun, base⟩
    | const c => exact ⟨_, _, hrun, base⟩
    | global q => exact ⟨_, _, hrun, base⟩
    | func q => exact ⟨_, _, hrun, base⟩

end
end Go.Proofs.Ytnajopkaepjncaa.Am

/- The abstract machine is right, twelfth part: every operation that is no call. -/
namespace Go.Proofs.Ytnajopkaepjncaa.Am
set_option linter.unusedVariables false
set_option linter.unusedSimpArgs false
open Go.RowKit

section
variable {P : Program} {w : World}

/-- The slots hold what the machine says. -/
def EnvRel (P : Program) (M : Mem) (env : List (Nat × AV)) (a : Act) : Prop := ∀ s, Rep P M (look env s) (a.tmps.getD s undef)
theorem EnvRel.opd {M : Mem} {env : List (Nat × AV)} {a : Act} (h : EnvRel P M env a) {x : Operand} {y : AV} (hx : evalO env x = some y) : Rep P M y (a.eval x) := by
  cases x with
  | tmp t => simp only [evalO, Option.some.injEq] at hx; subst hx; exact h t
  | const v => exact Rep.const hx
  | global g => cases hx
  | func f => simp only [evalO, Option.some.injEq] at hx; subst hx; exact .fn f [] #[] rfl (fun i hi => by simp at hi)
theorem EnvRel.ops {M : Mem} {env : List (Nat × AV)} {a : Act} (h : EnvRel P M env a) (xs : List Operand) : OpsRel P M env a.eval xs := fun x _ y hy => h.opd hy

def slotsOf (a : Act) : Nat → Value := fun s => a.tmps.getD s undef

/-- A value that is read of what is not turned. -/
theorem bytesOf_list {M : Mem} {G : Gh} (hM : M = G.mem w) {src dst e : TypeId} {xs sp : List AV} {v : Value} {s : List UInt8} (hs : P.underlying src = some (.slice e)) (he : P.underlying e = some (.int .u8)) (hd : P.underlying dst = some .string)
    (r : Rep P M (.lst e xs sp) v) (h : xs.mapM byteA = some s) : (Go.convert src dst v).run P w = .ok (.string ⟨⟨s⟩⟩) w := by
  subst hM
  have hx : ∀ (xs : List AV) (s : List UInt8), xs.mapM byteA = some s → ∃ ns : List Int, xs = ns.map (AV.int .u8) ∧ s = ns.map fun n => UInt8.ofNat n.toNat := by
    intro xs
    induction xs with
    | nil => intro s h; simp at h; subst h; exact ⟨[], rfl, rfl⟩
    | cons x r ih =>
      intro s h
      rw [List.mapM_cons] at h
      cases hb : byteA x with
      | none => simp [hb] at h
      | some b =>
        cases hr : r.mapM byteA with
        | none => simp [hb, hr] at h
        | some bs =>
          simp [hb, hr] at h; subst h
          obtain ⟨ns, h1, h2⟩ := ih bs hr
          unfold byteA at hb
          split at hb
          · rename_i n
            injection hb with hb
            exact ⟨n :: ns, by rw [h1]; rfl, by rw [h2, ← hb]; rfl⟩
          · cases hb
  obtain ⟨ns, rfl, rfl⟩ := hx xs s h
  cases r with
  | lst _ _ _ a cap sz b off c hsz hz hall hcap ha hc hr h1 =>
    by_cases h0 : ns.map (AV.int .u8) ++ sp = []
    · have h0' : ns = [] := by simpa using (List.append_eq_nil_iff.1 h0).1
      subst h0'
      cases a with
      | none => exact run_convert_bytes_nil w src e hs he _ _ dst hd
      | some ad =>
        simp only [Go.convert, Sem.run_bind, run_underlying' hs, run_underlying' hd, Result.andThen_ok, run_underlying' he]
        rfl
    · obtain rfl := ha h0
      have hfl : ∀ l : List Int, flat (l.map (AV.int .u8)) = l.map (AV.int .u8) := by
        intro l
        induction l with
        | nil => rfl
        | cons b r ih => simp only [flat, List.map_cons, List.flatMap_cons] at ih ⊢; rw [ih]; rfl
      rw [List.length_map]
      refine run_convert_bytes_arg w src e hs he b off ns.length cap ns rfl ?_ dst hd
      intro j hj
      have hj' : j < (flat (ns.map (AV.int .u8) ++ sp)).length := by rw [flat_append, List.length_append, hfl, List.length_map]; omega
      have hcell := pm_cell (hc j hj')
      have hrep := hr j hj'
      rw [flat_append, hfl] at hrep
      simp only [List.getD_eq_getElem?_getD] at hrep ⊢
      rw [List.getElem?_append_left (by rw [List.length_map]; exact hj), List.getElem?_map, List.getElem?_eq_getElem hj] at hrep
      rw [hcell, List.getElem?_eq_getElem hj]
      have := int_inv hrep
      rw [this]; rfl

theorem natA_spec {x : AV} {n : Nat} {M : Mem} {v : Value} (h : natA x = some n) (r : Rep P M x v) : ∃ k, v = .int k n := by
  unfold natA at h
  split at h
  · rename_i k q
    split at h
    · injection h with h; subst h
      have := int_inv r
      exact ⟨k, by rw [this, Int.toNat_of_nonneg (by assumption)]⟩
    · cases h
  · cases h

def isCallOp : Op → Bool
  | .call { callee := .value _, .. } => true
  | .call { callee := .invoke _ _, .. } => true
  | _ => false

theorem core_sound {G : Gh} {env : List (Nat × AV)} {H : List (Option Blk)} {own : List Loc} {a : Act} {call : CallA} {ops : List Oper} {o : Oper} {r : Res} (g : GOk G w) (hH : HeapRel P G H w) (ow : Owns P G env H own (slotsOf a) w) (he : EnvRel P (G.mem w) env a)
    (hc : isCallOp o.op = false) (h : core call P ops o env H own = some r) (d : Nat) :
    ∃ v w' G', ((execOp a.eval o).run P w = .ok (.value v) w' ∨ ((execOp a.eval o).run P w = .ok .skip w' ∧ v = undef)) ∧ Done P G w env (slotsOf a) r d v w' G' := by
  have pureCase : ∀ x, pureOp P env o.op = some x → r = ⟨x, H, own, false⟩ → ∃ v w' G', ((execOp a.eval o).run P w = .ok (.value v) w' ∨ ((execOp a.eval o).run P w = .ok .skip w' ∧ v = undef)) ∧ Done P G w env (slotsOf a) r d v w' G' := by
    intro x hx hr
    obtain ⟨v, hv, rv⟩ := pureOp_sound (w := w) hx (he.ops _)
    subst hr
    exact ⟨v, w, G, .inl hv, done_same g hH ow d rv⟩
  have hid : G.f H.length = none := by
    cases hf : G.f H.length with
    | none => rfl
    | some b => have := (hH.dom _ _ hf).lt; omega
  have newCase : ∀ (k : Blk) (cs : Array Value), CellsRep P (G.mem w) k.cs cs → Done P G w env (slotsOf a) ⟨.ptr H.length 0, H ++ [some k], own, false⟩ d (.pointer (some ⟨w.heap.size, 0, none⟩)) (w.alloc (.cells cs k.e)) (G.map H.length w.heap.size cs.size) := by
    intro k cs hcs
    have hH1 : HeapRel P G (H ++ [some k]) w := by
      refine ⟨fun i b hf => (hH.dom i b hf).append _, fun i b k hf hk => ?_, fun i j b k l h1 h2 h3 h4 n1 n2 => ?_, fun i b k hf hk hn => ?_⟩
      · have := (hH.dom i b hf).lt
        rw [List.getElem?_append_left this] at hk
        exact hH.blk i b k hf hk
      · have q1 := (hH.dom i b h1).lt
        have q2 := (hH.dom j b h2).lt
        rw [List.getElem?_append_left q1] at h3
        rw [List.getElem?_append_left q2] at h4
        exact hH.inj i j b k l h1 h2 h3 h4 n1 n2
      · have := (hH.dom i b hf).lt
        rw [List.getElem?_append_left this] at hk
        exact hH.lim i b k hf hk hn
    have ow1 : Owns P G env (H ++ [some k]) own (slotsOf a) w := ⟨ow.slot, fun i off b k cs hm hf hk hb => by
      have := (hH.dom i b hf).lt
      rw [List.getElem?_append_left this] at hk
      exact ow.cell i off b k cs hm hf hk hb, fun i off hm => (ow.dom i off hm).append _⟩
    exact done_new (xs := k.cs) (e := k.e) g hH1 ow1 hid hcs (by rw [List.getElem?_append_right (Nat.le_refl _)]; simp) (fun off hm => by have := (ow.dom _ off hm).lt; omega) d
  obtain ⟨dst, op, ty, pos, after, guard⟩ := o
  simp only at hc pureCase
  unfold core at h
  simp only at h
  split at h
  case h_1 v =>
    injection h with h
    by_cases hb : (owns own (.slot v) && appDst ops dst) = true
    · rw [hb] at h; simp only [cond_true] at h; subst h
      rw [Bool.and_eq_true, owns_iff] at hb
      exact ⟨_, _, _, .inl rfl, done_slot g hH ow v d hb.1 (he v)⟩
    · have hb' : (owns own (.slot v) && appDst ops dst) = false := by simpa using hb
      rw [hb'] at h; simp only [cond_false] at h; subst h
      exact ⟨_, _, _, .inl rfl, done_same g hH ow d (he v)⟩
  case h_2 t ad =>
    split at h
    · rename_i p hp
      split at h
      · rename_i x hx
        have rp := he.opd hp
        obtain ⟨u, hu, ru, hcell⟩ := load_sound hx rp (fun id off b k _ hf hk => hH.blk id b k hf hk)
        have hrun : (execOp a.eval { dst := dst, op := .load t ad, type := ty, pos := pos, after := after, guard := guard }).run P w = .ok (.value u) w := by
          simp only [execOp, Sem.run_bind, hu, Result.andThen_ok, Sem.run_pure]
        split at h
        · rename_i id off
          injection h with h
          by_cases hb : (owns own (.cell id off) && appDst ops dst && (sizeT P t == some 1) && (isAggT P t == some false)) = true
          · rw [hb] at h; simp only [cond_true] at h; subst h
            simp only [Bool.and_eq_true, owns_iff, beq_iff_eq] at hb
            obtain ⟨⟨⟨hb1, hb2⟩, hb3⟩, hb4⟩ := hb
            generalize hav : a.eval ad = av at rp
            cases rp with
            | ptr _ _ b hf =>
              have hf' : G.f id = some b := hf
              unfold loadA at hx
              rw [hb3] at hx
              simp only at hx
              split at hx
              · rename_i cs hcs
                unfold readCells at hcs
                split at hcs
                · rename_i k hk
                  split at hcs
                  · rename_i hle
                    injection hcs with hcs
                    obtain ⟨ds, hd, hsz, hbs, hrep, hone⟩ := hH.blk id b k hf' hk
                    have hoff : off < k.cs.length := by omega
                    have hxe : k.cs.getD off .undef = x := by
                      have hcs1 : cs = [k.cs.getD off .undef] := by
                        rw [← hcs, List.getD_eq_getElem?_getD, List.getElem?_eq_getElem hoff]
                        apply List.ext_getElem?
                        intro i
                        cases i with
                        | zero => simp [List.getElem?_take, List.getElem?_drop, List.getElem?_eq_getElem hoff]
                        | succ i => simp [List.getElem?_take]
                      rw [hcs1] at hx
                      unfold ofCells at hx
                      rw [hb4] at hx
                      simp only at hx
                      split at hx
                      · injection hx
                      · cases hx
                    have hue : ds.getD off undef = u := by
                      have h1 := hcell id off b rfl hf' hb3 hb4
                      have hod : off < ds.size := by omega
                      have h2 : w.cell? ⟨b, off, none⟩ = some ds[off] := by simp [World.cell?, hd, hod]
                      rw [h2] at h1; injection h1 with h1
                      rw [← h1]; simp [Array.getD_eq_getD_getElem?, hod]
                    exact ⟨u, _, _, .inl hrun, done_cell g hH ow id off d hb1 hf' hk hd hxe hue ru⟩
                  · cases hcs
                · cases hcs
              · cases hx
          · have hb' : (owns own (.cell id off) && appDst ops dst && (sizeT P t == some 1) && (isAggT P t == some false)) = false := by simpa using hb
            rw [hb'] at h; simp only [cond_false] at h; subst h
            exact ⟨u, _, _, .inl hrun, done_same g hH ow d ru⟩
        · injection h with h; subst h
          exact ⟨u, _, _, .inl hrun, done_same g hH ow d ru⟩
      · cases h
    · cases h
  case h_3 e =>
    split at h
    · rename_i z hz
      injection h with h; subst h
      obtain ⟨zv, hzr, hzc⟩ := zero_sound (M := G.mem w) (w := w) hz
      refine ⟨_, _, _, .inl ?_, newCase ⟨e, z⟩ zv.cells hzc⟩
      simp only [execOp, Instr.alloc, Sem.run_bind, hzr, Result.andThen_ok, newVar, newRow, run_newObj, Sem.run_pure]
      rfl
    · cases h
  case h_4 e x =>
    split at h
    · rename_i y hy
      split at h
      · rename_i hpos
        injection h with h; subst h
        have ry := he.opd hy
        refine ⟨_, _, _, .inl ?_, newCase ⟨e, y.cells⟩ (a.eval x).cells (cells_of ry hpos)⟩
        simp only [execOp, Instr.box, Sem.run_bind, Result.andThen_ok, newVar, newRow, run_newObj, Sem.run_pure]
        rfl
      · cases h
    · cases h
  case h_5 t ad x =>
    split at h
    · rename_i id off v hp hv
      split at h
      · rename_i H' hs
        injection h with h
        have := store_sound (xo := x) (d := d) g hH ow hs (he.opd hp) (he.opd hv) (by
          intro s hs'; subst hs'
          simp only [evalO, Option.some.injEq] at hv
          exact ⟨hv.symm, rfl⟩)
        obtain ⟨w', G', hrun, hd⟩ := this
        subst h
        refine ⟨undef, w', G', .inr ⟨?_, rfl⟩, ?_⟩
        · simp only [execOp, Sem.run_bind, hrun, Result.andThen_ok, Sem.run_pure]
        · exact hd
      · cases h
    · cases h
  case h_6 x =>
    split at h
    · rename_i v hv
      split at h
      · rename_i s
        injection h with h
        simp only [evalO, Option.some.injEq] at hv
        subst hv
        by_cases hb : owns own (.slot s) = true
        · rw [hb] at h; simp only [cond_true] at h; subst h
          exact ⟨_, _, _, .inl rfl, done_slot g hH ow s d (owns_iff.1 hb) (he s)⟩
        · have hb' : owns own (.slot s) = false := by simpa using hb
          rw [hb'] at h; simp only [cond_false] at h; subst h
          exact ⟨_, _, _, .inl rfl, done_same g hH ow d (he s)⟩
      · injection h with h; subst h
        exact ⟨_, _, _, .inl rfl, done_same g hH ow d (he.opd hv)⟩
    · cases h
  case h_7 t len parts =>
    split at h
    · rename_i e ps hu hps
      split at h
      · rename_i sz z hs hz
        split at h
        · rename_i hcond
          split at h
          · rename_i cs hf
            split at h
            · rename_i xs hx
              injection h with h; subst h
              have hp := evalParts_rel parts.toList ps hps (he.ops _)
              obtain ⟨v, w', G', hrun, hm⟩ := buildSlice_sound (l := .slot d) g hu hs hz hcond.1 hcond.2.1 hcond.2.2 hf hx (qs := parts.map fun (i, x) => (i, a.eval x)) (by simpa using hp)
              exact ⟨v, w', G', .inl (by simp only [execOp, Sem.run_bind, hrun, Result.andThen_ok, Sem.run_pure]), done_made g hH ow hm true⟩
            · cases h
          · cases h
        · cases h
      · cases h
    · cases h
  case h_8 t len cap =>
    split at h
    · rename_i e n c hu hn hcp
      split at h
      · rename_i n' c' i z hn' hc' hi hz
        split at h
        · rename_i hcond
          split at h
          · rename_i x hx
            injection h with h; subst h
            obtain ⟨k1, e1⟩ := natA_spec hn' (he.opd hn)
            obtain ⟨k2, e2⟩ := natA_spec hc' (he.opd hcp)
            obtain ⟨v, w', G', hrun, hm⟩ := makeSlice_sound (l := .slot d) (k1 := k1) (k2 := k2) g hu hi hz hcond.1 hcond.2.1 hcond.2.2.1 hcond.2.2.2.1 hcond.2.2.2.2 hx
            exact ⟨v, w', G', .inl (by simp only [execOp, e1, e2, Sem.run_bind, hrun, Result.andThen_ok, Sem.run_pure]), done_made g hH ow hm true⟩
          · cases h
        · cases h
      · cases h
    · cases h
  case h_9 src d' x =>
    have fin : ∀ y z, evalO env x = some y → (Go.convert src d' (a.eval x)).run P w = .ok z w → ∀ q, Rep P (G.mem w) q z → r = ⟨q, H, own, false⟩ → ∃ v w' G', ((execOp a.eval { dst := dst, op := .convert src d' x, type := ty, pos := pos, after := after, guard := guard }).run P w = .ok (.value v) w' ∨ ((execOp a.eval { dst := dst, op := .convert src d' x, type := ty, pos := pos, after := after, guard := guard }).run P w = .ok .skip w' ∧ v = undef)) ∧ Done P G w env (slotsOf a) r d v w' G' := by
      intro y z hy hz q rq hr
      subst hr
      exact ⟨z, w, G, .inl (by simp only [execOp, Sem.run_bind, hz, Result.andThen_ok, Sem.run_pure]), done_same g hH ow d rq⟩
    split at h
    · rename_i e s hus hud hx
      split at h
      · rename_i hue hsz
        injection h with h; subst h
        have ev := str_inv (he.opd hx)
        have hrun := Lib.run_convert_string_bytes (P := P) w src d' e ⟨⟨s⟩⟩ hus hud hue
        have hbel := Lib.bytesWorld_below w e ⟨⟨s⟩⟩
        have hnew := Lib.bytesWorld_at_new w e ⟨⟨s⟩⟩
        have hsize := Lib.bytesWorld_size w e ⟨⟨s⟩⟩
        have hfl : ∀ l : List UInt8, flat (l.map fun b => AV.int .u8 b.toNat) = l.map fun b => AV.int .u8 b.toNat := by
          intro l
          induction l with
          | nil => rfl
          | cons b r ih => simp only [flat, List.map_cons, List.flatMap_cons] at ih ⊢; rw [ih]; rfl
        have hlen : (s.map fun b => AV.int .u8 (b.toNat : Int)).length = s.length := by simp
        have hall : ∀ x ∈ s.map (fun b => AV.int .u8 (b.toNat : Int)), x.cells.length = 1 := by
          intro x hx; obtain ⟨b, _, rfl⟩ := List.mem_map.1 hx; rfl
        have hbs : ByteArray.size ⟨⟨s⟩⟩ = s.length := by simp [ByteArray.size]
        have hm : Made P G w (.lst e (s.map fun b => .int .u8 b.toNat) []) (.slice (some ⟨w.heap.size, 0, none⟩) s.length (grownCap w s.length 0 e)) (Lib.bytesWorld w e ⟨⟨s⟩⟩) (G.list w.heap.size (s.length * 1) none) (.slot d) ∨ True := .inr trivial
        have hrep := list_rep (P := P) g hbel hnew (e := e) (xs := s.map fun b => AV.int .u8 b.toNat) (cap := grownCap w s.length 0 e) none hsz (by omega) hall (by rw [hlen]; exact grownCap_ge w s.length 0 e) (by
          intro j hj
          rw [hfl, hlen] at hj
          have hcell := Lib.bytesWorld_cell w e ⟨⟨s⟩⟩ j (by rw [hbs]; exact hj)
          simp only [World.cell?, hnew] at hcell
          have hjs : j < (Lib.bytesCells w e ⟨⟨s⟩⟩).size := by
            rcases Nat.lt_or_ge j (Lib.bytesCells w e ⟨⟨s⟩⟩).size with h' | h'
            · exact h'
            · simp [Array.getElem?_eq_none h'] at hcell
          have e1 : (Lib.bytesCells w e ⟨⟨s⟩⟩).getD j undef = .int .u8 (s.getD j 0).toNat := by
            simp only [Option.isSome_none, Bool.false_eq_true, if_false] at hcell
            rw [Array.getD_eq_getD_getElem?, hcell]; rfl
          rw [hfl, e1]
          refine ⟨hjs, ?_, rfl⟩
          simp only [List.getD_eq_getElem?_getD, List.getElem?_map, List.getElem?_eq_getElem hj, Option.map_some, Option.getD_some]
          exact .int _ _)
        rw [hlen] at hrep
        rw [hbs] at hrun
        have gr := list_grow g hbel (s.length * 1) none
        have hf : ∀ id b, (G.list w.heap.size (s.length * 1) none).f id = some b → G.f id = some b := fun _ _ h => h
        have o' := owns_grow gr g hf ow
        refine ⟨_, _, G.list w.heap.size (s.length * 1) none, .inl (by simp only [execOp, ev, Sem.run_bind, hrun, Result.andThen_ok, Sem.run_pure]), ⟨gr.ext g, list_gok g (by omega) _ _, hH.grow gr g hf, hrep, fun s _ hs => o'.slot s hs, o'.cell, fun h => (by cases h), o'.dom⟩⟩
      · cases h
    · rename_i e e' xs sp hus hud hx
      split at h
      · rename_i hue
        split at h
        · rename_i hee
          subst hee
          unfold plainRes at h
          cases hm : xs.mapM byteA with
          | none => rw [hm] at h; cases h
          | some s =>
            rw [hm] at h; simp only [Option.map_some, Option.some.injEq] at h
            exact fin _ _ hx (bytesOf_list rfl hus hue hud (he.opd hx) hm) _ (.str s) h.symm
        · cases h
      · cases h
    · rename_i e hus hud hx
      split at h
      · rename_i hue
        injection h with h
        have r0 := he.opd hx
        generalize hv : a.eval x = v at r0
        cases r0
        refine fin _ _ hx ?_ _ (.str []) h.symm
        rw [hv]
        exact run_convert_bytes_nil w src e hus hue 0 0 d' hud
      · cases h
    · rename_i y hx _ _ _
      unfold plainRes at h
      cases hm : convA P src d' y with
      | none => rw [hm] at h; cases h
      | some q =>
        rw [hm] at h; simp only [Option.map_some, Option.some.injEq] at h
        obtain ⟨z, hz, rz⟩ := conv_sound (w := w) hm (he.opd hx)
        exact fin _ _ hx hz _ rz h.symm
    · cases h
  case h_10 f args => cases hc
  case h_11 rv name args => cases hc
  case h_12 args argTypes =>
    split at h
    · rename_i s x ts tx hargs htys
      have ea : args = #[s, x] := by apply Array.ext'; simpa using hargs
      have et : argTypes = #[ts, tx] := by apply Array.ext'; simpa using htys
      subst ea; subst et
      have key : ∀ v w', (Builtin.append_ #[ts, tx] ty #[a.eval s, a.eval x]).run P w = .ok v w' → (execOp a.eval { dst := dst, op := .call { callee := .builtin .append, args := #[s, x], argTypes := #[ts, tx] }, type := ty, pos := pos, after := after, guard := guard }).run P w = .ok (.value v) w' := by
        intro v w' hl
        simp only [execOp, resolve, Sem.run_bind, Sem.run_pure, Result.andThen_ok, invoke, builtin, List.map_toArray, List.map_cons, List.map_nil, hl]
      unfold appendA at h
      split at h
      · rename_i e av bv hts hs hx
        split at h
        · rename_i ys i z hty hi hz
          have hsz : sizeT P e = some i.size := by simp [sizeT, hi]
          split at h
          · -- onto nil
            split at h
            · rename_i hcond
              injection h with h; subst h
              have r0 := he.opd hs
              generalize hsv : a.eval s = sv at r0 key
              cases r0
              obtain ⟨v', w', G', hrun, hext, hgok, hrep, hown, hblk, hf, hbs, hoo⟩ := append_sound (ty := ty) (xs := []) (l := .slot d) g hts hi hz hcond.2.2.2 hty (he.opd hx) hcond.2.2.1 (by simpa using hcond.2.1) (by simpa using hcond.1) (cells := []) (v := .slice none 0 0) (World.ownsRow_nil w 0 e i.size) (fun b hb => by simp [Value.ownBlock] at hb) (by simp) (fun j hj => by simp at hj)
              exact ⟨v', w', G', .inl (key _ _ hrun), done_append (vb := none) g hH (fun b e => by cases e) hext hgok (fun b hlt _ => hblk b hlt (by simp [Value.ownBlock])) hf hbs hoo hrep hown (fun s _ hm => ow.slot s hm) ow.cell ow.dom⟩
            · cases h
          · -- onto a list whose end is one's own
            rename_i e' xs
            split at h
            · rename_i t
              split at h
              · rename_i hcond
                obtain ⟨c1, c2, c3, c4, c5, c6⟩ := hcond
                subst c2
                injection h with h; subst h
                have r0 := he.opd hs
                simp only [evalO, Option.some.injEq] at hs
                have ho := ow.slot t (owns_iff.1 c1)
                rw [hs] at ho
                have ho' : OwnAt P (G.ren (.slot t) (.slot d)) w (.slot d) (.lst e' xs []) (slotsOf a t) := ren_own ho _
                obtain ⟨sz, cells, h1, h2, h3, h4⟩ := ho' e' xs rfl
                obtain rfl : sz = i.size := by rw [hsz] at h1; exact (Option.some.inj h1).symm
                have hev : a.eval (.tmp t) = slotsOf a t := rfl
                have hxl : (∀ x ∈ xs, x.cells.length = i.size) ∧ (∀ j, j < cells.length → Rep P (G.mem w) ((flat xs).getD j .undef) (cells.getD j undef) ∧ (cells.getD j undef).oneCell' = true) := by
                  rw [hev] at r0
                  generalize hsv : slotsOf a t = sv at r0 h3
                  cases r0 with
                  | lst _ _ _ ad cap sz b off c hsz' hz hall hcap ha hc' hr h1' =>
                    obtain rfl : i.size = sz := by rw [hsz] at hsz'; exact Option.some.inj hsz'
                    simp only [List.append_nil] at hall ha hc' hr h1'
                    refine ⟨hall, ?_⟩
                    intro j hj
                    have hfl := flat_len _ hall
                    have hcl : cells.length = xs.length * i.size := h3.1
                    have hjf : j < (flat xs).length := by omega
                    have hne : xs ≠ [] := by
                      intro e0
                      rw [e0] at hcl
                      simp at hcl
                      rw [hcl] at hj
                      simp at hj
                    obtain rfl := ha hne
                    rcases h3.2 with ⟨hv, _⟩ | ⟨b', cap', cur', hv, _, hb', hnc, hcm, hcs, htake⟩
                    · cases hv
                    · injection hv with q1 q2 q3
                      injection q1 with q1
                      injection q1 with q1 q4
                      subst q1; subst q4
                      have hcell := pm_cell (hc' j hjf)
                      have hjc : j < cur'.size := by
                        have := Nat.mul_le_mul_right i.size hnc
                        omega
                      have e1 : w.cell? ⟨b, 0 + j, none⟩ = some cur'[j] := by simp [World.cell?, hb', hjc]
                      rw [e1] at hcell; injection hcell with hcell
                      have e2 := take_getD cur' (xs.length * i.size) j cells htake (by omega) (by have := Nat.mul_le_mul_right i.size hnc; omega)
                      have e3 : cur'.getD j undef = c j := by rw [← hcell]; simp [Array.getD_eq_getD_getElem?, hjc]
                      rw [e2, e3]
                      exact ⟨hr j hjf, h1' j hjf⟩
                obtain ⟨v', w', G', hrun, hext, hgok, hrep, hown, hblk, hf, hbs, hoo⟩ := append_sound (ty := ty) (l := .slot d) (ren_gok g (.slot t) (.slot d)) hts hi hz c6 hty (he.opd hx) c5 c4 c3 h3 h4 hxl.1 hxl.2
                refine ⟨v', w', G', .inl (key _ _ hrun), ?_⟩
                have dn := done_append (env := env) (own := drop own (.slot t)) (tt := slotsOf a) (vb := (slotsOf a t).ownBlock) (ren_gok g (.slot t) (.slot d)) (ren_heap hH (.slot t) (.slot d)) (fun b e => (h4 b e).1) hext hgok hblk hf hbs hoo hrep hown
                  (fun s _ hm => ren_own_ne (ow.slot s (mem_drop.1 hm).1) (mem_drop.1 hm).2 _) (fun id off b k cs hm hf' hk hb => ren_own_ne (ow.cell id off b k cs (mem_drop.1 hm).1 hf' hk hb) (mem_drop.1 hm).2 _) (fun id off hm => ow.dom id off (mem_drop.1 hm).1)
                exact ⟨(ren_ext G _ _).trans dn.ext, dn.ok, dn.heap, dn.rep, dn.slot, dn.cell, dn.gives, dn.dom⟩
              · cases h
            · cases h
          · cases h
        · cases h
      · cases h
    · cases h
  case h_13 =>
    cases hp : pureOp P env op with
    | none => rw [hp] at h; cases h
    | some x => rw [hp] at h; injection h with h; exact pureCase x hp h.symm

theorem newAt_sound {G : Gh} {env : List (Nat × AV)} {H : List (Option Blk)} {own : List Loc} {a : Act} {o : Oper} {r : Res} {id : Nat} (g : GOk G w) (hH : HeapRel P G H w) (ow : Owns P G env H own (slotsOf a) w) (he : EnvRel P (G.mem w) env a)
    (h : newAt P o env H own id = some r) (d : Nat) :
    ∃ v w' G', (execOp a.eval o).run P w = .ok (.value v) w' ∧ Done P G w env (slotsOf a) r d v w' G' := by
  unfold newAt at h
  split at h
  case h_2 => cases h
  rename_i hhole
  have hlt : id < H.length := (List.getElem?_eq_some_iff.1 hhole).1
  have notLive : ¬ Live H id := by rintro ⟨k, hk⟩; rw [hhole] at hk; cases hk
  have hid : G.f id = none := by
    cases hf : G.f id with
    | none => rfl
    | some b => exact absurd (hH.dom _ _ hf) notLive
  have hne : ∀ i b, G.f i = some b → i ≠ id := fun i b hf e => by rw [e, hid] at hf; cases hf
  have newCase : ∀ (k : Blk) (cs : Array Value), CellsRep P (G.mem w) k.cs cs → Done P G w env (slotsOf a) ⟨.ptr id 0, H.set id (some k), own, false⟩ d (.pointer (some ⟨w.heap.size, 0, none⟩)) (w.alloc (.cells cs k.e)) (G.map id w.heap.size cs.size) := by
    intro k cs hcs
    have hH1 : HeapRel P G (H.set id (some k)) w := by
      refine ⟨fun i b hf => (hH.dom i b hf).set _ _, fun i b k' hf hk => ?_, fun i j b k' l h1 h2 h3 h4 n1 n2 => ?_, fun i b k' hf hk hn => ?_⟩
      · rw [List.getElem?_set_ne (hne i b hf).symm] at hk
        exact hH.blk i b k' hf hk
      · rw [List.getElem?_set_ne (hne i b h1).symm] at h3
        rw [List.getElem?_set_ne (hne j b h2).symm] at h4
        exact hH.inj i j b k' l h1 h2 h3 h4 n1 n2
      · rw [List.getElem?_set_ne (hne i b hf).symm] at hk
        exact hH.lim i b k' hf hk hn
    have ow1 : Owns P G env (H.set id (some k)) own (slotsOf a) w := ⟨ow.slot, fun i off b k' cs hm hf hk hb => by
      rw [List.getElem?_set_ne (hne i b hf).symm] at hk
      exact ow.cell i off b k' cs hm hf hk hb, fun i off hm => (ow.dom i off hm).set _ _⟩
    exact done_new (xs := k.cs) (e := k.e) g hH1 ow1 hid hcs (by rw [List.getElem?_set_self hlt]) (fun off hm => notLive (ow.dom _ off hm)) d
  obtain ⟨dst, op, ty, pos, after, guard⟩ := o
  simp only at h
  split at h
  · rename_i e
    split at h
    · rename_i z hz
      injection h with h; subst h
      obtain ⟨zv, hzr, hzc⟩ := zero_sound (M := G.mem w) (w := w) hz
      refine ⟨_, _, _, ?_, newCase ⟨e, z⟩ zv.cells hzc⟩
      simp only [execOp, Instr.alloc, Sem.run_bind, hzr, Result.andThen_ok, newVar, newRow, run_newObj, Sem.run_pure]
      rfl
    · cases h
  · rename_i e x
    split at h
    · rename_i y hy
      split at h
      · rename_i hpos
        injection h with h; subst h
        have ry := he.opd hy
        refine ⟨_, _, _, ?_, newCase ⟨e, y.cells⟩ (a.eval x).cells (cells_of ry hpos)⟩
        simp only [execOp, Instr.box, Sem.run_bind, Result.andThen_ok, newVar, newRow, run_newObj, Sem.run_pure]
        rfl
      · cases h
    · cases h
  · cases h

end
end Go.Proofs.Ytnajopkaepjncaa.Am

/- The abstract machine is right: lists that are written into. -/
namespace Go.Proofs.Ytnajopkaepjncaa.Am
set_option linter.unusedVariables false
set_option linter.unusedSimpArgs false
open Go.RowKit

section
variable {P : Program} {w : World}

/-! ### a new block, however it was made -/
theorem mk_grow {G : Gh} {w' : World} (hb : Below w.heap.size w w') {id : Nat} (hid : G.f id = none) (n : Nat) : Grow G w (G.map id w.heap.size n) w' where
  below := hb
  lim := fun _ _ => rfl
  owner := fun _ _ => rfl
  bs := fun b hb => upd_ne _ _ (by omega)
  f := fun i b h => by
    show upd G.f id _ i = _
    rw [upd_ne _ _ (by rintro rfl; rw [hid] at h; cases h)]; exact h
  fnew := fun i b h => by
    change upd G.f id (some w.heap.size) i = some b at h
    by_cases hi : i = id
    · subst hi; rw [upd_same] at h; injection h with h; exact .inr ⟨hid, by omega⟩
    · rw [upd_ne _ _ hi] at h; exact .inl h
theorem mk_gok {G : Gh} (g : GOk G w) {w' : World} (hs : w.heap.size < w'.heap.size) (id n : Nat) : GOk (G.map id w.heap.size n) w' where
  fin := fun i b h => by
    change upd G.f id (some w.heap.size) i = some b at h
    by_cases hi : i = id
    · subst hi; rw [upd_same] at h; injection h with h; subst h
      obtain ⟨h1, h2, h3⟩ := g.new w.heap.size (Nat.le_refl _)
      exact ⟨hs, h2⟩
    · rw [upd_ne _ _ hi] at h
      obtain ⟨h1, h2⟩ := g.fin i b h
      exact ⟨by omega, h2⟩
  new := fun b hb => by
    obtain ⟨h1, h2, h3⟩ := g.new b (by omega)
    exact ⟨h1, h2, by show upd _ _ _ b = 0; rw [upd_ne _ _ (by omega)]; exact h3⟩
theorem mk_heap {G : Gh} (g : GOk G w) {w' : World} (hb : Below w.heap.size w w') {id : Nat} (hid : G.f id = none) {xs : List AV} {cs : Array Value} {e : TypeId} (hn : w'.heap[w.heap.size]? = some (.cells cs e (0, 0))) (hl : xs.length ≤ cs.size)
    (hr : ∀ j, j < xs.length → Rep P (G.mem w) (xs.getD j .undef) (cs.getD j undef) ∧ (cs.getD j undef).oneCell' = true) {H : List (Option Blk)} (r : HeapRel P G H w) (hH : H[id]? = some (some ⟨e, xs⟩)) :
    HeapRel P (G.map id w.heap.size cs.size) H w' := by
  have split_ : ∀ i b, (G.map id w.heap.size cs.size).f i = some b → (i = id ∧ b = w.heap.size) ∨ (i ≠ id ∧ G.f i = some b) := by
    intro i b h
    change upd G.f id (some w.heap.size) i = some b at h
    by_cases hi : i = id
    · subst hi; rw [upd_same] at h; injection h with h; exact .inl ⟨rfl, h.symm⟩
    · rw [upd_ne _ _ hi] at h; exact .inr ⟨hi, h⟩
  have gr := mk_grow hb hid cs.size
  refine ⟨?_, ?_, ?_, ?_⟩
  · intro i b h
    rcases split_ i b h with ⟨rfl, rfl⟩ | ⟨_, h⟩
    · exact ⟨_, hH⟩
    · exact r.dom i b h
  · intro i b k h hk
    rcases split_ i b h with ⟨rfl, rfl⟩ | ⟨_, h⟩
    · rw [hH] at hk; injection hk with hk; injection hk with hk; subst hk
      exact ⟨cs, hn, hl, (by show cs.size = upd G.bs w.heap.size cs.size w.heap.size; rw [upd_same]), fun j hj => (gr.ext g).rep (hr j hj).1, fun j hj => (hr j hj).2⟩
    · exact (r.blk i b k h hk).grow gr g (g.fin i b h).1
  · intro i j b k l h1 h2 hk hl n1 n2
    rcases split_ i b h1 with ⟨q1, q2⟩ | ⟨_, q1⟩ <;> rcases split_ j b h2 with ⟨q3, q4⟩ | ⟨_, q3⟩
    · rw [q1, q3]
    · have := (g.fin j _ q3).1; omega
    · have := (g.fin i _ q1).1; omega
    · exact r.inj i j b k l q1 q3 hk hl n1 n2
  · intro i b k h hk hn
    rcases split_ i b h with ⟨_, rfl⟩ | ⟨_, h⟩
    · exact (g.new _ (Nat.le_refl _)).1
    · exact r.lim i b k h hk hn

/-- A block that is dead. -/
theorem kill_heap {G : Gh} {H : List (Option Blk)} (r : HeapRel P G H w) {id : Nat} {k : Blk} (hk : H[id]? = some (some k)) : HeapRel P G (H.set id (some ⟨k.e, []⟩)) w := by
  have hlt : id < H.length := (List.getElem?_eq_some_iff.1 hk).1
  have hset : ∀ j q, (H.set id (some ⟨k.e, []⟩))[j]? = some (some q) → (j = id ∧ q = ⟨k.e, []⟩) ∨ (j ≠ id ∧ H[j]? = some (some q)) := by
    intro j q hj
    by_cases hji : j = id
    · subst hji
      rw [List.getElem?_set_self hlt] at hj
      injection hj with hj; injection hj with hj
      exact .inl ⟨rfl, hj.symm⟩
    · rw [List.getElem?_set_ne (fun e => hji e.symm)] at hj
      exact .inr ⟨hji, hj⟩
  refine ⟨fun i b h => (r.dom i b h).set _ _, fun i b q h hq => ?_, fun i j b q l h1 h2 h3 h4 n1 n2 => ?_, fun i b q h hq hn => ?_⟩
  · rcases hset i q hq with ⟨rfl, rfl⟩ | ⟨_, hq⟩
    · obtain ⟨ds, d1, d2, d3, d4, d5⟩ := r.blk i b k h hk
      exact ⟨ds, d1, Nat.zero_le _, d3, fun j hj => absurd hj (Nat.not_lt_zero _), fun j hj => absurd hj (Nat.not_lt_zero _)⟩
    · exact r.blk i b q h hq
  · rcases hset i q h3 with ⟨_, rfl⟩ | ⟨_, h3⟩
    · exact absurd rfl n1
    · rcases hset j l h4 with ⟨_, rfl⟩ | ⟨_, h4⟩
      · exact absurd rfl n2
      · exact r.inj i j b q l h1 h2 h3 h4 n1 n2
  · rcases hset i q hq with ⟨_, rfl⟩ | ⟨_, hq⟩
    · exact absurd rfl hn
    · exact r.lim i b q h hq hn
theorem kill_owns {G : Gh} {env : List (Nat × AV)} {H : List (Option Blk)} {own : List Loc} {t : Nat → Value} (o : Owns P G env H own t w) {id : Nat} {k : Blk} (hk : H[id]? = some (some k)) : Owns P G env (H.set id (some ⟨k.e, []⟩)) own t w := by
  have hlt : id < H.length := (List.getElem?_eq_some_iff.1 hk).1
  refine ⟨o.slot, fun i off b q cs hm hf hq hb => ?_, fun i off hm => (o.dom i off hm).set _ _⟩
  by_cases hji : i = id
  · subst hji
    rw [List.getElem?_set_self hlt] at hq
    injection hq with hq; injection hq with hq
    subst hq
    intro e xs hx
    cases hx
  · rw [List.getElem?_set_ne (fun e => hji e.symm)] at hq
    exact o.cell i off b q cs hm hf hq hb
theorem more_heap {G : Gh} {H : List (Option Blk)} (r : HeapRel P G H w) (E : List (Option Blk)) : HeapRel P G (H ++ E) w := by
  refine ⟨fun i b hf => (r.dom i b hf).append _, fun i b k hf hk => ?_, fun i j b k l h1 h2 h3 h4 n1 n2 => ?_, fun i b k hf hk hn => ?_⟩
  · have := (r.dom i b hf).lt
    rw [List.getElem?_append_left this] at hk
    exact r.blk i b k hf hk
  · have q1 := (r.dom i b h1).lt
    have q2 := (r.dom j b h2).lt
    rw [List.getElem?_append_left q1] at h3
    rw [List.getElem?_append_left q2] at h4
    exact r.inj i j b k l h1 h2 h3 h4 n1 n2
  · have := (r.dom i b hf).lt
    rw [List.getElem?_append_left this] at hk
    exact r.lim i b k hf hk hn
theorem more_owns {G : Gh} {env : List (Nat × AV)} {H : List (Option Blk)} {own : List Loc} {t : Nat → Value} (r : HeapRel P G H w) (o : Owns P G env H own t w) (E : List (Option Blk)) : Owns P G env (H ++ E) own t w :=
  ⟨o.slot, fun i off b k cs hm hf hk hb => by
      have := (r.dom i b hf).lt
      rw [List.getElem?_append_left this] at hk
      exact o.cell i off b k cs hm hf hk hb, fun i off hm => (o.dom i off hm).append _⟩

/-- A list in a new block of the machine's. -/
theorem done_sl {G : Gh} {env : List (Nat × AV)} {H : List (Option Blk)} {own : List Loc} {t : Nat → Value} (g : GOk G w) (h : HeapRel P G H w) (o : Owns P G env H own t w) {w' : World} (hbel : Below w.heap.size w w') {xs : List AV} {cs : Array Value} {e : TypeId} {len cap sz : Nat}
    (hn : w'.heap[w.heap.size]? = some (.cells cs e (0, 0))) (hl : xs.length ≤ cs.size) (hr : ∀ j, j < xs.length → Rep P (G.mem w) (xs.getD j .undef) (cs.getD j undef) ∧ (cs.getD j undef).oneCell' = true)
    (hs : sizeT P e = some sz) (hz : 0 < sz) (hcap : cap * sz ≤ cs.size) (hlen : len ≤ cap) (d : Nat) :
    Done P G w env t ⟨.sl e H.length 0 len, H ++ [some ⟨e, xs⟩], own, false⟩ d (.slice (some ⟨w.heap.size, 0, none⟩) len cap) w' (G.map H.length w.heap.size cs.size) := by
  have hid : G.f H.length = none := by
    cases hf : G.f H.length with
    | none => rfl
    | some b => have := (h.dom _ _ hf).lt; omega
  have hsz : w.heap.size < w'.heap.size := (Array.getElem?_eq_some_iff.1 hn).1
  have gr := mk_grow hbel hid cs.size
  have h1 := more_heap h [some ⟨e, xs⟩]
  have o1 := more_owns h o [some ⟨e, xs⟩]
  refine ⟨gr.ext g, mk_gok g hsz _ _, mk_heap g hbel hid hn hl hr h1 (by rw [List.getElem?_append_right (Nat.le_refl _)]; simp), ?_, fun s _ hs' => (o1.slot s hs').grow gr, ?_, fun h => (by cases h), o1.dom⟩
  · refine .sl e _ 0 len _ cap sz (upd_same _ _ _) hs hz ?_ hlen
    show 0 + cap * sz ≤ upd G.bs w.heap.size cs.size w.heap.size
    rw [upd_same]; omega
  · intro id' off b k cs' hm hf hk hb
    by_cases hi : id' = H.length
    · have := (o.dom id' off hm).lt; omega
    · change upd G.f H.length (some w.heap.size) id' = some b at hf
      rw [upd_ne _ _ hi] at hf
      have hlt := (g.fin id' b hf).1
      rw [gr.below.block b hlt] at hb
      exact (o1.cell id' off b k cs' hm hf hk hb).grow gr

/-- Another name of a block whose old one is dead; it is written behind its end. -/
theorem done_alias {G : Gh} {env : List (Nat × AV)} {H : List (Option Blk)} {own : List Loc} {t : Nat → Value} (g : GOk G w) (h : HeapRel P G H w) (o : Owns P G env H own t w) {id b : Nat} (hf : G.f id = some b) {k : Blk} (hk : H[id]? = some (some k)) (hkne : k.cs ≠ []) {xs : List AV} {es : Array Value} {len cap sz : Nat}
    (hes : es.size = G.bs b) (hl : xs.length ≤ es.size) (hr : ∀ j, j < xs.length → Rep P (G.mem w) (xs.getD j .undef) (es.getD j undef) ∧ (es.getD j undef).oneCell' = true)
    (hs : sizeT P k.e = some sz) (hz : 0 < sz) (hcap : cap * sz ≤ G.bs b) (hlen : len ≤ cap) (d : Nat) :
    Done P G w env t ⟨.sl k.e H.length 0 len, H.set id (some ⟨k.e, []⟩) ++ [some ⟨k.e, xs⟩], own, false⟩ d (.slice (some ⟨b, 0, none⟩) len cap) (w.setRow b es) { G with f := upd G.f H.length (some b) } := by
  have hid : G.f H.length = none := by
    cases hf : G.f H.length with
    | none => rfl
    | some b => have := (h.dom _ _ hf).lt; omega
  obtain ⟨ds, hd, hsz, hbs, hrep, hone⟩ := h.blk id b k hf hk
  have hlt : id < H.length := (List.getElem?_eq_some_iff.1 hk).1
  have hext0 := store_ext g hf (h.lim id b k hf hk hkne) es
  have hgok0 := store_gok g b es
  have hnew : (w.setRow b es).heap[b]? = some (.cells es k.e (0, 0)) := setRow_heap w b ds es k.e (0, 0) hd
  have hoth : ∀ q, q ≠ b → (w.setRow b es).heap[q]? = w.heap[q]? := fun q hq => setRow_other w b q es hq
  have hfG : ∀ i q, upd G.f H.length (some b) i = some q → (i = H.length ∧ q = b) ∨ (i ≠ H.length ∧ G.f i = some q) := by
    intro i q hi
    by_cases hh : i = H.length
    · subst hh; rw [upd_same] at hi; injection hi with hi; exact .inl ⟨rfl, hi.symm⟩
    · rw [upd_ne _ _ hh] at hi; exact .inr ⟨hh, hi⟩
  have hext : Ext G w { G with f := upd G.f H.length (some b) } (w.setRow b es) := by
    refine ⟨hext0.os, hext0.tape, hext0.output, hext0.size, hext0.prot, fun i q hi => ?_, hext0.bs, fun q hq hn => ?_⟩
    · show upd G.f H.length (some b) i = some q
      rw [upd_ne _ _ (by rintro rfl; rw [hid] at hi; cases hi)]; exact hi
    · obtain ⟨a1, a2, a3⟩ := hext0.foreign q hq hn
      refine ⟨a1, a2, ?_⟩
      rintro (⟨i, hi⟩ | ho)
      · rcases hfG i q hi with ⟨_, rfl⟩ | ⟨_, hi⟩
        · exact hn (.inl ⟨id, hf⟩)
        · exact hn (.inl ⟨i, hi⟩)
      · exact hn (.inr ho)
  have hgok : GOk { G with f := upd G.f H.length (some b) } (w.setRow b es) := by
    refine ⟨fun i q hi => ?_, hgok0.new⟩
    rcases hfG i q hi with ⟨_, rfl⟩ | ⟨_, hi⟩
    · exact hgok0.fin id q hf
    · exact hgok0.fin i q hi
  -- the blocks behind it
  have hH : ∀ i q, (H.set id (some ⟨k.e, []⟩) ++ [some ⟨k.e, xs⟩])[i]? = some (some q) → (i = H.length ∧ q = ⟨k.e, xs⟩) ∨ (i ≠ H.length ∧ i = id ∧ q = ⟨k.e, []⟩) ∨ (i ≠ H.length ∧ i ≠ id ∧ H[i]? = some (some q)) := by
    intro i q hi
    have hlen' : (H.set id (some ⟨k.e, []⟩)).length = H.length := List.length_set
    by_cases h1 : i < H.length
    · rw [List.getElem?_append_left (by rw [hlen']; exact h1)] at hi
      by_cases h2 : i = id
      · subst h2
        rw [List.getElem?_set_self hlt] at hi
        injection hi with hi; injection hi with hi
        exact .inr (.inl ⟨by omega, rfl, hi.symm⟩)
      · rw [List.getElem?_set_ne (fun e => h2 e.symm)] at hi
        exact .inr (.inr ⟨by omega, h2, hi⟩)
    · have h3 : i = H.length := by
        have := (List.getElem?_eq_some_iff.1 hi).1
        rw [List.length_append, hlen'] at this
        simp only [List.length_cons, List.length_nil] at this
        omega
      subst h3
      rw [List.getElem?_append_right (by rw [hlen']; exact Nat.le_refl _), hlen', Nat.sub_self] at hi
      injection hi with hi; injection hi with hi
      exact .inl ⟨rfl, hi.symm⟩
  have hdead : ∀ i q k', G.f i = some q → H[i]? = some (some k') → i ≠ id → k'.cs ≠ [] → q ≠ b := by
    intro i q k' h1 h2 h3 h4 e
    subst e
    exact h3 (h.inj i id q k' k h1 hf h2 hk h4 hkne)
  have hheap : HeapRel P { G with f := upd G.f H.length (some b) } (H.set id (some ⟨k.e, []⟩) ++ [some ⟨k.e, xs⟩]) (w.setRow b es) := by
    have hnil : ∀ k' : Blk, k'.cs = [] → k'.e = k.e → BlkAt P ((Gh.mk G.lim (upd G.f H.length (some b)) G.bs G.owner).mem (w.setRow b es)) (w.setRow b es) b k' := by
      intro k' h1 h2
      exact ⟨es, by rw [h2]; exact hnew, by rw [h1]; exact Nat.zero_le _, hes, fun j hj => by rw [h1] at hj; exact absurd hj (Nat.not_lt_zero _), fun j hj => by rw [h1] at hj; exact absurd hj (Nat.not_lt_zero _)⟩
    refine ⟨?_, ?_, ?_, ?_⟩
    · intro i q hi
      rcases hfG i q hi with ⟨rfl, rfl⟩ | ⟨_, hi⟩
      · refine ⟨⟨k.e, xs⟩, ?_⟩
        rw [List.getElem?_append_right (by rw [List.length_set]; exact Nat.le_refl _), List.length_set, Nat.sub_self]; rfl
      · exact ((h.dom i q hi).set _ _).append _
    · intro i q k' hi hk'
      rcases hfG i q hi with ⟨rfl, rfl⟩ | ⟨hne, hi2⟩
      · rcases hH _ k' hk' with ⟨_, rfl⟩ | ⟨hn, _⟩ | ⟨hn, _⟩
        · exact ⟨es, hnew, hl, hes, fun j hj => hext.rep (hr j hj).1, fun j hj => (hr j hj).2⟩
        · exact absurd rfl hn
        · exact absurd rfl hn
      · rcases hH _ k' hk' with ⟨hn, _⟩ | ⟨_, rfl, rfl⟩ | ⟨_, hni, hk'⟩
        · exact absurd hn hne
        · rw [hf] at hi2; injection hi2 with hi2; subst hi2
          exact hnil _ rfl rfl
        · obtain ⟨ds', q1, q2, q3, q4, q5⟩ := h.blk i q k' hi2 hk'
          by_cases hqb : q = b
          · subst hqb
            have hn : k'.cs = [] := by
              rcases List.eq_nil_or_concat k'.cs with h | ⟨_, _, h⟩
              · exact h
              · exact absurd rfl (hdead i q k' hi2 hk' hni (by rw [h]; simp))
            rw [hd] at q1; injection q1 with q1; injection q1 with q1 q6
            exact hnil k' hn q6.symm
          · exact ⟨ds', by rw [hoth q hqb]; exact q1, q2, q3, fun j' hj' => hext.rep (q4 j' hj'), q5⟩
    · intro i j q k1 k2 h1 h2 h3 h4 n1 n2
      rcases hH i k1 h3 with ⟨a1, _⟩ | ⟨_, _, rfl⟩ | ⟨a1, a2, a3⟩
      · rcases hH j k2 h4 with ⟨b1, _⟩ | ⟨_, _, rfl⟩ | ⟨b1, b2, b3⟩
        · rw [a1, b1]
        · exact absurd rfl n2
        · exfalso
          rcases hfG i q h1 with ⟨_, rfl⟩ | ⟨hn, _⟩
          · rcases hfG j q h2 with ⟨hn, _⟩ | ⟨_, h2⟩
            · exact b1 hn
            · exact hdead j q k2 h2 b3 b2 n2 rfl
          · exact hn a1
      · exact absurd rfl n1
      · rcases hH j k2 h4 with ⟨b1, _⟩ | ⟨_, _, rfl⟩ | ⟨b1, b2, b3⟩
        · exfalso
          rcases hfG j q h2 with ⟨_, rfl⟩ | ⟨hn, _⟩
          · rcases hfG i q h1 with ⟨hn, _⟩ | ⟨_, h1⟩
            · exact a1 hn
            · exact hdead i q k1 h1 a3 a2 n1 rfl
          · exact hn b1
        · exact absurd rfl n2
        · rcases hfG i q h1 with ⟨hn, _⟩ | ⟨_, h1⟩
          · exact absurd hn a1
          · rcases hfG j q h2 with ⟨hn, _⟩ | ⟨_, h2⟩
            · exact absurd hn b1
            · exact h.inj i j q k1 k2 h1 h2 a3 b3 n1 n2
    · intro i q k' hi hk' hn
      rcases hfG i q hi with ⟨_, rfl⟩ | ⟨hne, hi2⟩
      · exact h.lim id q k hf hk hkne
      · rcases hH _ k' hk' with ⟨hn', _⟩ | ⟨_, _, rfl⟩ | ⟨_, hni, hk'⟩
        · exact absurd hn' hne
        · exact absurd rfl hn
        · exact h.lim i q k' hi2 hk' hn
  have hkeep : ∀ l y u, OwnAt P G w l y u → OwnAt P { G with f := upd G.f H.length (some b) } (w.setRow b es) l y u := fun l y u r => own_setRow g hf es l y u r
  refine ⟨hext, hgok, hheap, .sl k.e _ 0 len b cap sz (upd_same _ _ _) hs hz (by show 0 + cap * sz ≤ G.bs b; omega) hlen, fun s _ hm => hkeep _ _ _ (o.slot s hm), ?_, fun h => (by cases h), fun i off hm => ((o.dom i off hm).set _ _).append _⟩
  intro i off q k' cs' hm hf' hk' hb'
  rcases hfG i q hf' with ⟨rfl, rfl⟩ | ⟨_, hf'⟩
  · have := (o.dom _ off hm).lt; omega
  · rcases hH i k' hk' with ⟨hn, _⟩ | ⟨_, _, rfl⟩ | ⟨_, hni, hk'⟩
    · have := (o.dom _ off hm).lt; omega
    · intro e xs hx; cases hx
    · by_cases hke : k'.cs = []
      · rw [hke]; intro e xs hx; cases hx
      · have hqb := hdead i q k' hf' hk' hni hke
        rw [hoth q hqb] at hb'
        exact hkeep _ _ _ (o.cell i off q k' cs' hm hf' hk' hb')

/-- Lists that are written into, made. -/
theorem newSl_sound {G : Gh} {env : List (Nat × AV)} {H : List (Option Blk)} {own : List Loc} {a : Act} {e : TypeId} {o : Oper} {r : Res} (g : GOk G w) (hH : HeapRel P G H w) (ow : Owns P G env H own (slotsOf a) w) (he : EnvRel P (G.mem w) env a)
    (h : newSl P e o.op env H own = some r) (d : Nat) :
    ∃ v w' G', (execOp a.eval o).run P w = .ok (.value v) w' ∧ Done P G w env (slotsOf a) r d v w' G' := by
  obtain ⟨dst, op, ty, pos, after, guard⟩ := o
  simp only at h
  unfold newSl at h
  split at h
  · rename_i t len cap
    split at h
    · rename_i e' n c hu hn hcp
      split at h
      · rename_i n' c' i z hn' hc' hi hz
        split at h
        · rename_i hcond
          obtain ⟨rfl, hnc, hby, hc, hp, hzl⟩ := hcond
          injection h with h; subst h
          obtain ⟨k1, e1⟩ := natA_spec hn' (he.opd hn)
          obtain ⟨k2, e2⟩ := natA_spec hc' (he.opd hcp)
          have hs : sizeT P e' = some i.size := by simp [sizeT, hi]
          obtain ⟨zv, hzr, hzc⟩ := zero_sound (M := G.mem w) (w := w) hz
          have hzz : i.zero = some zv := by
            simp only [zeroValue, Sem.run_bind, run_typeInfo' hi, Result.andThen_ok] at hzr
            cases hiz : i.zero with
            | none => rw [hiz] at hzr; simp at hzr
            | some q => rw [hiz] at hzr; simp at hzr; rw [hzr]
          have hrun := run_make (P := P) w t e' i zv hu hi hzz k1 k2 n' c' (by omega) (by omega) (by
            have : ((i.bytes * c' : Nat) : Int) ≤ 281474976710656 := by rw [Nat.mul_comm]; omega
            rwa [Int.natCast_mul] at this) (by omega)
          simp only [Int.toNat_natCast] at hrun
          have hmr := made_rep hzc hzl hp c'
          have hml : (rep c' z).length = c' * i.size := rep_length hzl c'
          refine ⟨_, _, _, ?_, done_sl (sz := i.size) (cap := c') g hH ow (w' := w.alloc (.cells (madeCells zv.cells (c' * i.size)) e')) ((Below.refl _ _).alloc (Nat.le_refl _) _) (xs := rep c' z) (alloc_heap_new w _) (by rw [hml, size_madeCells]; exact Nat.le_refl _)
            (fun j hj => ⟨hmr.at_ j hj, hmr.one j hj⟩) hs hp (by rw [size_madeCells]; exact Nat.le_refl _) hnc d⟩
          simp only [execOp, e1, e2, Sem.run_bind, hrun, Result.andThen_ok, Sem.run_pure]
        · cases h
      · cases h
    · cases h
  · rename_i args argTypes
    split at h
    · rename_i s x ts tx hargs htys
      split at h
      · rename_i e' av b hts hs hx
        split at h
        · rename_i ys i z htl hi hz
          have ea : args = #[s, x] := by apply Array.ext'; simpa using hargs
          have et : argTypes = #[ts, tx] := by apply Array.ext'; simpa using htys
          subst ea; subst et
          have key : ∀ v w', (Builtin.append_ #[ts, tx] ty #[a.eval s, a.eval x]).run P w = .ok v w' → (execOp a.eval { dst := dst, op := .call { callee := .builtin .append, args := #[s, x], argTypes := #[ts, tx] }, type := ty, pos := pos, after := after, guard := guard }).run P w = .ok (.value v) w' := by
            intro v w' hl
            simp only [execOp, resolve, Sem.run_bind, Sem.run_pure, Result.andThen_ok, invoke, builtin, List.map_toArray, List.map_cons, List.map_nil, hl]
          obtain ⟨zv, hzr, hzc⟩ := zero_sound (M := G.mem w) (w := w) hz
          have hzz : i.zero = some zv := by
            simp only [zeroValue, Sem.run_bind, run_typeInfo' hi, Result.andThen_ok] at hzr
            cases hiz : i.zero with
            | none => rw [hiz] at hzr; simp at hzr
            | some q => rw [hiz] at hzr; simp at hzr; rw [hzr]
          have hsz : sizeT P e = some i.size := by simp [sizeT, hi]
          split at h
          · -- nil
            split at h
            · rename_i hcond
              obtain ⟨rfl, hpos, hby, h63, hp, hzl⟩ := hcond
              injection h with h; subst h
              obtain ⟨du, news, hu, hdu, hlen, hfc, hnl, hally, hnr⟩ := tail_cells rfl htl (he.opd hx) hts hsz hp
              have hfy := flat_len _ hally
              have hv : a.eval s = .slice none 0 0 := by
                have := he.opd hs
                generalize a.eval s = q at this
                cases this; rfl
              have hrun := app_grow (ty := ty) hts hu hdu hi hzz (a := none) (n := 0) (cap := 0) (olds := []) hlen (hfc w.drew rfl) rfl (by omega) (by omega) (by rw [Nat.zero_add]; exact hby)
              rw [← hv] at hrun
              have hge := grownCap_ge w (0 + ys.length) 0 e'
              obtain ⟨C, hC⟩ : ∃ C, C = grownCap w (0 + ys.length) 0 e' := ⟨_, rfl⟩
              rw [← hC] at hrun hge
              obtain ⟨cs, hcs⟩ : ∃ cs, cs = ([] ++ news ++ (Builtin.zeroCells zv.cells (C - (0 + ys.length))).toList).toArray := ⟨_, rfl⟩
              rw [← hcs] at hrun
              have hzs : zv.cells.size = i.size := by rw [hzc.size, hzl]
              have hsize : cs.size = C * i.size := by
                rw [hcs]
                simp only [List.nil_append, List.size_toArray, List.length_append, Array.length_toList, size_zeroCells, hzs, hnl, ← Nat.add_mul]
                congr 1; omega
              have hle : ys.length * i.size ≤ C * i.size := Nat.mul_le_mul_right _ (by omega)
              have hget : ∀ j, j < ys.length * i.size → cs.getD j undef = news.getD j undef := by
                intro j hj
                rw [hcs]
                simp only [List.nil_append, Array.getD_eq_getD_getElem?, List.getElem?_toArray, List.getD_eq_getElem?_getD]
                rw [List.getElem?_append_left (by omega)]
              have hd := done_sl (sz := i.size) (cap := C) (len := ys.length) g hH ow (w' := w.drew.alloc (.cells cs e')) (((Below.refl _ _).drew).alloc (Nat.le_refl _) _) (xs := flat ys) (heap_alloc_new w.drew _) (by rw [hfy, hsize]; exact hle)
                (fun j hj => by rw [hfy] at hj; rw [hget j hj]; exact hnr j (by rw [hnl]; exact hj)) hsz hp (by rw [hsize]; exact Nat.le_refl _) (by omega) d
              rw [Nat.zero_add] at hrun
              exact ⟨_, _, _, key _ _ hrun, hd⟩
            · cases h
          · -- a list that is written into
            rename_i e'' id off len
            split at h
            · rename_i k hk
              split at h
              · rename_i hcond
                obtain ⟨h1, h2, h3, h4, hkpos, hlk, hby, h63, hp, hzl⟩ := hcond
                subst h1; subst h2; subst h4
                injection h with h; subst h
                obtain ⟨du, news, hu, hdu, hlen, hfc, hnl, hally, hnr⟩ := tail_cells rfl htl (he.opd hx) hts hsz hp
                have hfy := flat_len _ hally
                have hkne : k.cs ≠ [] := by intro e; rw [e] at hkpos; exact absurd hkpos (Nat.not_lt_zero _)
                have hone : ∀ u ∈ news, u.oneCell' = true := by
                  intro q hq
                  obtain ⟨j, hj, rfl⟩ := List.mem_iff_getElem.1 hq
                  have := (hnr j hj).2
                  simpa [List.getD_eq_getElem?_getD, List.getElem?_eq_getElem hj] using this
                have rs := he.opd hs
                generalize hvv : a.eval s = q at rs key
                cases rs with
                | sl _ _ _ _ b cap sz hf hsz' hz' hb hl =>
                obtain rfl : i.size = sz := by rw [hsz] at hsz'; exact Option.some.inj hsz'
                have hf : G.f id = some b := hf
                obtain ⟨ds, hd, hds, hbs, hrep, hone0⟩ := hH.blk id b k hf hk
                rw [h3] at hd
                have hb : 0 + cap * i.size ≤ G.bs b := hb
                have hbs : ds.size = G.bs b := hbs
                obtain ⟨olds, ho⟩ : ∃ olds, olds = ds.toList.take (len * i.size) := ⟨_, rfl⟩
                have hlc : len * i.size ≤ cap * i.size := Nat.mul_le_mul_right _ hl
                have hol : olds.length = len * i.size := by rw [ho, List.length_take, Array.length_toList]; omega
                have hog : ∀ j, j < len * i.size → olds.getD j undef = ds.getD j undef := by
                  intro j hj
                  rw [ho]
                  simp only [List.getD_eq_getElem?_getD, List.getElem?_take, if_pos hj, Array.getElem?_toList, Array.getD_eq_getD_getElem?]
                have htk : (k.cs.take (len * i.size)).length = len * i.size := by rw [List.length_take]; omega
                have hxl : (k.cs.take (len * i.size) ++ flat ys).length = (len + ys.length) * i.size := by rw [List.length_append, htk, hfy, Nat.add_mul]
                have hcat : ∀ j, j < (len + ys.length) * i.size → Rep P (G.mem w) ((k.cs.take (len * i.size) ++ flat ys).getD j .undef) ((olds ++ news).getD j undef) ∧ ((olds ++ news).getD j undef).oneCell' = true := by
                  intro j hj
                  rw [Nat.add_mul] at hj
                  by_cases hlt : j < len * i.size
                  · have e1 : (k.cs.take (len * i.size) ++ flat ys).getD j .undef = k.cs.getD j .undef := by
                      simp only [List.getD_eq_getElem?_getD]
                      rw [List.getElem?_append_left (by omega), List.getElem?_take, if_pos hlt]
                    have e2 : (olds ++ news).getD j undef = ds.getD j undef := by
                      rw [← hog j hlt]
                      simp only [List.getD_eq_getElem?_getD]
                      rw [List.getElem?_append_left (by omega)]
                    rw [e1, e2]
                    exact ⟨hrep j (by omega), hone0 j (by omega)⟩
                  · have := hnr (j - len * i.size) (by omega)
                    simp only [List.getD_eq_getElem?_getD] at this ⊢
                    rw [List.getElem?_append_right (by omega), List.getElem?_append_right (by omega), htk, hol]
                    exact this
                by_cases hroom : len + ys.length ≤ cap
                · have hle : (len + ys.length) * i.size ≤ cap * i.size := Nat.mul_le_mul_right _ hroom
                  have hfit : len * i.size + news.length ≤ ds.size := by rw [hnl, ← Nat.add_mul]; omega
                  have hrun := app_room (ty := ty) hts hu hdu hi (n := len) hd hlen (hfc w rfl) hone hroom hfit
                  rw [← ho] at hrun
                  obtain ⟨es, hes⟩ : ∃ es, es = (olds ++ news ++ ds.toList.drop (len * i.size + news.length)).toArray := ⟨_, rfl⟩
                  rw [← hes] at hrun
                  have hess : es.size = ds.size := by
                    rw [hes]
                    simp only [List.size_toArray, List.length_append, List.length_drop, Array.length_toList, hol]
                    omega
                  have hget : ∀ j, j < (len + ys.length) * i.size → es.getD j undef = (olds ++ news).getD j undef := by
                    intro j hj
                    rw [hes]
                    simp only [Array.getD_eq_getD_getElem?, List.getElem?_toArray, List.getD_eq_getElem?_getD]
                    rw [List.getElem?_append_left (by rw [List.length_append, hol, hnl, ← Nat.add_mul]; exact hj)]
                  have hdn := done_alias (sz := i.size) (cap := cap) (len := len + ys.length) (xs := k.cs.take (len * i.size) ++ flat ys) (es := es) g hH ow hf hk hkne (by rw [hess]; exact hbs) (by rw [hxl, hess]; omega) (fun j hj => by rw [hxl] at hj; rw [hget j hj]; exact hcat j hj) (by rw [h3]; exact hsz) hp (by omega) hroom d
                  rw [h3] at hdn
                  exact ⟨_, _, _, key _ _ hrun, hdn⟩
                · have hfo : (Builtin.firstCells i.size len (.slice (some ⟨b, 0, none⟩) len cap)).run P w.drew = .ok olds.toArray w.drew := by
                    refine run_firstCells_some w.drew i.size len _ _ _ olds hol ?_
                    intro j q hq
                    have hj : j < len * i.size := by rw [← hol]; exact (List.getElem?_eq_some_iff.1 hq).1
                    rw [add_addr, Nat.zero_add]
                    have hjd : j < ds.size := by omega
                    have e1 : w.cell? ⟨b, j, none⟩ = some ds[j] := by simp [World.cell?, hd, hjd]
                    show w.cell? ⟨b, j, none⟩ = some q
                    rw [e1, ← hq, ho, List.getElem?_take, if_pos hj, Array.getElem?_toList, Array.getElem?_eq_getElem hjd]
                  have hrun := app_grow (ty := ty) hts hu hdu hi hzz (a := some ⟨b, 0, none⟩) (n := len) (cap := cap) (olds := olds) hlen (hfc w.drew rfl) hfo (by omega) h63 hby
                  have hge := grownCap_ge w (len + ys.length) cap e''
                  obtain ⟨C, hC⟩ : ∃ C, C = grownCap w (len + ys.length) cap e'' := ⟨_, rfl⟩
                  rw [← hC] at hrun hge
                  obtain ⟨cs, hcs⟩ : ∃ cs, cs = (olds ++ news ++ (Builtin.zeroCells zv.cells (C - (len + ys.length))).toList).toArray := ⟨_, rfl⟩
                  rw [← hcs] at hrun
                  have hzs : zv.cells.size = i.size := by rw [hzc.size, hzl]
                  have hsize : cs.size = C * i.size := by
                    rw [hcs]
                    simp only [List.size_toArray, List.length_append, Array.length_toList, size_zeroCells, hzs, hnl, hol, ← Nat.add_mul]
                    congr 1; omega
                  have hle : (len + ys.length) * i.size ≤ C * i.size := Nat.mul_le_mul_right _ hge
                  have hget : ∀ j, j < (len + ys.length) * i.size → cs.getD j undef = (olds ++ news).getD j undef := by
                    intro j hj
                    rw [hcs]
                    simp only [Array.getD_eq_getD_getElem?, List.getElem?_toArray, List.getD_eq_getElem?_getD]
                    rw [List.getElem?_append_left (by rw [List.length_append, hol, hnl, ← Nat.add_mul]; exact hj)]
                  have hk1 := kill_heap hH hk
                  have ow1 := kill_owns ow hk
                  rw [h3] at hk1 ow1
                  have hdn := done_sl (sz := i.size) (cap := C) (len := len + ys.length) g hk1 ow1 (w' := w.drew.alloc (.cells cs e'')) (((Below.refl _ _).drew).alloc (Nat.le_refl _) _) (xs := k.cs.take (len * i.size) ++ flat ys) (heap_alloc_new w.drew _) (by rw [hxl, hsize]; exact hle)
                    (fun j hj => by rw [hxl] at hj; rw [hget j hj]; exact hcat j hj) hsz hp (by rw [hsize]; exact Nat.le_refl _) hge d
                  rw [List.length_set] at hdn
                  exact ⟨_, _, _, key _ _ hrun, hdn⟩
              · cases h
            · cases h
          · cases h
        · cases h
      · cases h
    · cases h
  · cases h

end
end Go.Proofs.Ytnajopkaepjncaa.Am

/- The abstract machine is right, thirteenth part: an operation puts its value; calls. -/
namespace Go.Proofs.Ytnajopkaepjncaa.Am
set_option linter.unusedVariables false
set_option linter.unusedSimpArgs false
open Go.RowKit

section
variable {P : Program} {w : World}

structure Rel (P : Program) (G : Gh) (nt : Nat) (st : St) (a : Act) (w : World) : Prop where
  ok : GOk G w
  heap : HeapRel P G st.H w
  own : Owns P G st.env st.H st.own (slotsOf a) w
  env : EnvRel P (G.mem w) st.env a
  size : a.tmps.size = nt
  defers : a.defers = []

theorem fresh_slot (l : List Loc) : ∃ d, Loc.slot d ∉ l := by
  have : ∀ l : List Loc, ∃ d, ∀ s, Loc.slot s ∈ l → s < d := by
    intro l
    induction l with
    | nil => exact ⟨0, fun s h => by cases h⟩
    | cons x r ih =>
      obtain ⟨d, hd⟩ := ih
      cases x with
      | slot s => exact ⟨max d (s + 1), fun q h => by
          rcases List.mem_cons.1 h with h | h
          · injection h with h; omega
          · have := hd q h; omega⟩
      | cell i o => exact ⟨d, fun q h => by
          rcases List.mem_cons.1 h with h | h
          · cases h
          · exact hd q h⟩
  obtain ⟨d, hd⟩ := this l
  exact ⟨d, fun h => by have := hd d h; omega⟩

theorem slots_put {a : Act} {d : Nat} {v : Value} (h : d < a.tmps.size) (s : Nat) : slotsOf (a.put (some d) v) s = if s = d then v else slotsOf a s := by
  unfold slotsOf Act.put
  simp only [Array.getD_eq_getD_getElem?]
  by_cases hs : s = d
  · subst hs; rw [if_pos rfl, Array.getElem?_setIfInBounds_self_of_lt h]; rfl
  · rw [if_neg hs, Array.getElem?_setIfInBounds_ne (fun e => hs e.symm)]
theorem look_cons (d : Nat) (x : AV) (env : List (Nat × AV)) (s : Nat) : look ((d, x) :: env) s = if s = d then x else look env s := by
  simp only [look]
  by_cases h : s = d
  · subst h; simp
  · rw [if_neg h]
    have : Nat.beq d s = false := by
      cases hb : Nat.beq d s with
      | false => rfl
      | true => exact absurd (Nat.eq_of_beq_eq_true hb).symm h
    rw [this]; rfl

theorem Done.owns {G G' : Gh} {w' : World} {env : List (Nat × AV)} {t : Nat → Value} {r : Res} {d : Nat} {v : Value} (h : Done P G w env t r d v w' G') (hd : Loc.slot d ∉ r.own) : Owns P G' env r.H r.own t w' :=
  ⟨fun s hs => h.slot s (by rintro rfl; exact hd hs) hs, h.cell, h.dom⟩

/-- The value is put; all stands as the machine has it. 'hd': what the operation has left is told for every slot that it may be put in. -/
theorem put_sound {nt : Nat} {st st' : St} {a : Act} {r : Res} {dst : Option Nat} {G G' : Gh} {w' : World} {v : Value} (hR : Rel P G nt st a w) (hp : r.put nt st.env dst = some st') (d : Nat) (hdst : ∀ q, dst = some q → q = d) (hnone : dst = none → Loc.slot d ∉ r.own)
    (h : Done P G w st.env (slotsOf a) r d v w' G') : Rel P G' nt st' (a.put dst v) w' ∧ Ext G w G' w' := by
  refine ⟨?_, h.ext⟩
  cases dst with
  | none =>
    simp only [Res.put, Option.some.injEq] at hp; subst hp
    exact ⟨h.ok, h.heap, h.owns (hnone rfl), fun s => h.ext.rep (hR.env s), hR.size, hR.defers⟩
  | some q =>
    obtain rfl := hdst q rfl
    simp only [Res.put] at hp
    split at hp
    · rename_i hlt
      injection hp with hp; subst hp
      have hsz : q < a.tmps.size := by rw [hR.size]; exact hlt
      refine ⟨h.ok, h.heap, ⟨?_, ?_, ?_⟩, ?_, by simp [Act.put, hR.size], hR.defers⟩
      · intro s hs
        rw [slots_put hsz, look_cons]
        by_cases hsq : s = q
        · subst hsq
          rw [if_pos rfl, if_pos rfl]
          cases hg : r.gives with
          | true => exact h.gives hg
          | false => simp only [hg, cond_false] at hs; exact absurd rfl (mem_drop.1 hs).2
        · rw [if_neg hsq, if_neg hsq]
          refine h.slot s hsq ?_
          cases hg : r.gives with
          | true =>
            simp only [hg, cond_true] at hs
            rcases mem_give.1 hs with e | ⟨e, _⟩
            · injection e with e; exact absurd e hsq
            · exact e
          | false => simp only [hg, cond_false] at hs; exact (mem_drop.1 hs).1
      · intro id off b k cs hm
        refine h.cell id off b k cs ?_
        cases hg : r.gives with
        | true =>
          simp only [hg, cond_true] at hm
          rcases mem_give.1 hm with e | ⟨e, _⟩
          · cases e
          · exact e
        | false => simp only [hg, cond_false] at hm; exact (mem_drop.1 hm).1
      · intro id off hm
        refine h.dom id off ?_
        cases hg : r.gives with
        | true =>
          simp only [hg, cond_true] at hm
          rcases mem_give.1 hm with e | ⟨e, _⟩
          · cases e
          · exact e
        | false => simp only [hg, cond_false] at hm; exact (mem_drop.1 hm).1
      · intro s
        have := slots_put (v := v) hsz s
        unfold slotsOf at this
        rw [this, look_cons]
        by_cases hsq : s = q
        · rw [if_pos hsq, if_pos hsq]; exact h.rep
        · rw [if_neg hsq, if_neg hsq]; exact h.ext.rep (hR.env s)
    · cases hp

/-! ### calls -/
def Gh.callee (G : Gh) : Gh := { G with owner := fun b => match G.owner b with | some (.cell i o) => some (.cell i o) | _ => none }
def Gh.back (G G' : Gh) : Gh := { G' with owner := fun b => match G.owner b with | some (.slot s) => some (.slot s) | _ => G'.owner b }

theorem callee_foot {G : Gh} {b : Nat} (h : Foot G.callee b) : Foot G b := by
  rcases h with h | h
  · exact .inl h
  · refine .inr ?_
    simp only [Gh.callee] at h
    split at h
    · rename_i e; rw [e]; rfl
    · cases h
theorem callee_gok {G : Gh} (g : GOk G w) : GOk G.callee w where
  fin := fun id b h => by
    obtain ⟨h1, h3⟩ := g.fin id b h
    exact ⟨h1, by simp only [Gh.callee, h3]⟩
  new := fun b hb => by
    obtain ⟨h1, h2, h3⟩ := g.new b hb
    exact ⟨h1, by simp only [Gh.callee, h2], h3⟩
theorem callee_own {G : Gh} {i o : Nat} {x : AV} {v : Value} (r : OwnAt P G w (.cell i o) x v) : OwnAt P G.callee w (.cell i o) x v := by
  intro e xs hx
  obtain ⟨sz, cells, h1, h2, h3, h4⟩ := r e xs hx
  exact ⟨sz, cells, h1, h2, h3, fun q hq => ⟨by simp only [Gh.callee, (h4 q hq).1], (h4 q hq).2⟩⟩

structure CellOwns (P : Program) (G : Gh) (H : List (Option Blk)) (own : List Loc) (w : World) : Prop where
  cell : ∀ id off b k cs, Loc.cell id off ∈ own → G.f id = some b → H[id]? = some (some k) → w.heap[b]? = some (.cells cs k.e (0, 0)) → OwnAt P G w (.cell id off) (k.cs.getD off .undef) (cs.getD off undef)
  dom : ∀ id off, Loc.cell id off ∈ own → Live H id

/-- What a call leaves. -/
structure CallDone (P : Program) (G : Gh) (w : World) (out : Out) (v : Value) (w' : World) (G' : Gh) : Prop where
  ext : Ext G w G' w'
  ok : GOk G' w'
  heap : HeapRel P G' out.2.1 w'
  rep : Rep P (G'.mem w') out.1 v
  own : CellOwns P G' out.2.1 out.2.2 w'

def ArgsRep (P : Program) (M : Mem) (args : List AV) (vals : Array Value) : Prop := vals.size = args.length ∧ ∀ i, i < args.length → Rep P M (args.getD i .undef) (vals.getD i undef)
def CallSound (P : Program) (call : CallA) : Prop := ∀ f args H own out, call f args H own = some out → ∀ (G : Gh) (w : World) (vals : Array Value), GOk G w → HeapRel P G H w → CellOwns P G H own w → ArgsRep P (G.mem w) args vals →
  Calls P f vals w fun e w' => ∃ v G', e = .returned v ∧ CallDone P G w out v w' G'

theorem back_done {G G' : Gh} {w' : World} {env : List (Nat × AV)} {H : List (Option Blk)} {own : List Loc} {t : Nat → Value} {out : Out} {v : Value} (g : GOk G w) (hH : HeapRel P G H w) (o : Owns P G env H own t w) (h : CallDone P G.callee w out v w' G') (d : Nat) :
    Done P G w env t ⟨out.1, out.2.1, own.filter (fun l => !l.isCell) ++ out.2.2.filter Loc.isCell, false⟩ d v w' (G.back G') := by
  have slotF : ∀ b s, G.owner b = some (.slot s) → b < w.heap.size ∧ ¬ Foot G.callee b := by
    intro b s hb
    have hlt : b < w.heap.size := by
      rcases Nat.lt_or_ge b w.heap.size with h | h
      · exact h
      · have := (g.new b h).2.1; rw [hb] at this; cases this
    refine ⟨hlt, ?_⟩
    rintro (⟨id, hid⟩ | hf)
    · have := (g.fin id b hid).2; rw [hb] at this; cases this
    · simp only [Gh.callee, hb] at hf; cases hf
  have hext : Ext G w (G.back G') w' := by
    refine ⟨h.ext.os, h.ext.tape, h.ext.output, h.ext.size, h.ext.prot, h.ext.f, h.ext.bs, ?_⟩
    intro b hb hf
    obtain ⟨h1, h2, h3⟩ := h.ext.foreign b hb (fun hf' => hf (callee_foot hf'))
    refine ⟨h1, h2, ?_⟩
    rintro (h4 | h4)
    · exact h3 (.inl h4)
    · simp only [Gh.back] at h4
      split at h4
      · rename_i e; exact hf (.inr (by rw [e]; rfl))
      · exact h3 (.inr h4)
  refine ⟨hext, ⟨?_, ?_⟩, ⟨h.heap.dom, h.heap.blk, h.heap.inj, h.heap.lim⟩, h.rep, ?_, ?_, fun h => (by cases h), ?_⟩
  · intro id b hid
    obtain ⟨h1, h3⟩ := h.ok.fin id b hid
    refine ⟨h1, ?_⟩
    simp only [Gh.back]
    split
    · rename_i s e
      obtain ⟨h4, h5⟩ := slotF b s e
      exact absurd (.inl ⟨id, hid⟩) (h.ext.foreign b h4 h5).2.2
    · exact h3
  · intro b hb
    obtain ⟨h1, h2, h3⟩ := h.ok.new b hb
    refine ⟨h1, ?_, h3⟩
    simp only [Gh.back]
    rw [(g.new b (Nat.le_trans h.ext.size hb)).2.1]
    exact h2
  · intro s _ hs
    rcases List.mem_append.1 hs with hs | hs
    · have hs := (List.mem_filter.1 hs).1
      intro e xs hx
      obtain ⟨sz, cells, h1, h2, h3, h4⟩ := o.slot s hs e xs hx
      refine ⟨sz, cells, h1, h2, ?_, ?_⟩
      · rcases h3.2 with hn | ⟨q, cap, cur, hv, hb0, hh, rest⟩
        · exact ⟨h3.1, .inl hn⟩
        · have hq := h4 q (by rw [hv]; rfl)
          obtain ⟨h5, h6⟩ := slotF q s hq.1
          exact ⟨h3.1, .inr ⟨q, cap, cur, hv, hb0, by rw [(h.ext.foreign q h5 h6).1]; exact hh, rest⟩⟩
      · intro q hq
        have hq := h4 q hq
        obtain ⟨h5, h6⟩ := slotF q s hq.1
        refine ⟨by simp only [Gh.back, hq.1], ?_⟩
        show G'.lim q = _
        rw [(h.ext.foreign q h5 h6).2.1]; exact hq.2
    · have := (List.mem_filter.1 hs).2; cases this
  · intro id off b k cs hm hf hk hb
    rcases List.mem_append.1 hm with hm | hm
    · have := (List.mem_filter.1 hm).2; simp [Loc.isCell] at this
    · have hm := (List.mem_filter.1 hm).1
      intro e xs hx
      obtain ⟨sz, cells, h1, h2, h3, h4⟩ := h.own.cell id off b k cs hm hf hk hb e xs hx
      refine ⟨sz, cells, h1, h2, h3, fun q hq => ⟨?_, (h4 q hq).2⟩⟩
      have hq' := (h4 q hq).1
      simp only [Gh.back]
      split
      · rename_i s e'
        obtain ⟨h5, h6⟩ := slotF q s e'
        exact absurd (.inr (by rw [hq']; rfl)) (h.ext.foreign q h5 h6).2.2
      · exact hq'
  · intro id off hm
    rcases List.mem_append.1 hm with hm | hm
    · have := (List.mem_filter.1 hm).2; simp [Loc.isCell] at this
    · exact h.own.dom id off (List.mem_filter.1 hm).1

end
end Go.Proofs.Ytnajopkaepjncaa.Am

/- The abstract machine is right: lists that were written into and are written no more. -/
namespace Go.Proofs.Ytnajopkaepjncaa.Am
set_option linter.unusedVariables false
set_option linter.unusedSimpArgs false
open Go.RowKit

section
variable {P : Program} {w : World}

theorem fzOne_sound {G : Gh} {H : List (Option Blk)} {own : List Loc} {x : AV} {v : Value} (g : GOk G w) (hH : HeapRel P G H w) (ho : CellOwns P G H own w) (r : Rep P (G.mem w) x v) :
    ∃ G', Ext G w G' w ∧ GOk G' w ∧ HeapRel P G' (fzOne P H x).2 w ∧ CellOwns P G' (fzOne P H x).2 own w ∧ Rep P (G'.mem w) (fzOne P H x).1 v := by
  have same : ∀ {y : AV × List (Option Blk)}, y = (x, H) → ∃ G', Ext G w G' w ∧ GOk G' w ∧ HeapRel P G' y.2 w ∧ CellOwns P G' y.2 own w ∧ Rep P (G'.mem w) y.1 v := by
    rintro y rfl
    exact ⟨G, Ext.refl _ _, g, hH, ho, r⟩
  unfold fzOne
  split
  case h_2 => exact same rfl
  rename_i e id off len
  split
  case h_2 => exact same rfl
  rename_i k sz hk hsz
  cases hc : (Nat.ble (off + len * sz) k.cs.length && Nat.blt 0 sz && Nat.blt 0 k.cs.length) with
  | false => simp only [cond_false]; exact same rfl
  | true =>
    simp only [cond_true]
    split
    case h_2 => exact same rfl
    rename_i xs hx
    simp only [Bool.and_eq_true] at hc
    obtain ⟨⟨c1, c2⟩, c3⟩ := hc
    have c1 : off + len * sz ≤ k.cs.length := Nat.ble_eq.mp c1
    have c2 : 0 < sz := Nat.blt_eq.mp c2
    have c3 : 0 < k.cs.length := Nat.blt_eq.mp c3
    have hkne : k.cs ≠ [] := by intro e; rw [e] at c3; exact absurd c3 (Nat.not_lt_zero _)
    cases r with
    | sl _ _ _ _ b cap sz' hf hsz' hz' hb hl =>
    obtain rfl : sz = sz' := by rw [hsz] at hsz'; exact Option.some.inj hsz'
    have hf : G.f id = some b := hf
    obtain ⟨ds, hd, hds, hbs, hrep, hone⟩ := hH.blk id b k hf hk
    have hlt : id < H.length := (List.getElem?_eq_some_iff.1 hk).1
    have hlim := hH.lim id b k hf hk hkne
    have hown := (g.fin id b hf).2
    have hcl : ((k.cs.drop off).take (len * sz)).length = len * sz := by rw [List.length_take, List.length_drop]; omega
    obtain ⟨x1, x2, x3⟩ := chop_spec len _ xs hx hcl
    have hset : ∀ j q, (H.set id (some ⟨k.e, []⟩))[j]? = some (some q) → (j = id ∧ q = ⟨k.e, []⟩) ∨ (j ≠ id ∧ H[j]? = some (some q)) := by
      intro j q hj
      by_cases hji : j = id
      · subst hji
        rw [List.getElem?_set_self hlt] at hj
        injection hj with hj; injection hj with hj
        exact .inl ⟨rfl, hj.symm⟩
      · rw [List.getElem?_set_ne (fun e => hji e.symm)] at hj
        exact .inr ⟨hji, hj⟩
    have hlimo : ∀ q, q ≠ b → upd G.lim b (off + len * sz) q = G.lim q := fun q hq => upd_ne _ _ hq
    have hext : Ext G w { G with lim := upd G.lim b (off + len * sz) } w := by
      refine ⟨rfl, rfl, rfl, Nat.le_refl _, ?_, fun _ _ h => h, fun _ => Nat.le_refl _, ?_⟩
      · intro q o u hq
        by_cases hqb : q = b
        · subst hqb
          unfold pmOf at hq
          rw [hlim] at hq
          simp at hq
        · unfold pmOf at hq ⊢
          show (if o < upd G.lim b (off + len * sz) q then _ else _) = _
          rw [hlimo q hqb]; exact hq
      · intro q hq hn
        have hqb : q ≠ b := by rintro rfl; exact hn (.inl ⟨id, hf⟩)
        exact ⟨rfl, hlimo q hqb, hn⟩
    have hbw := (g.fin id b hf).1
    have hgok : GOk { G with lim := upd G.lim b (off + len * sz) } w := by
      refine ⟨g.fin, fun q hq => ?_⟩
      obtain ⟨a1, a2, a3⟩ := g.new q hq
      exact ⟨(hlimo q (by omega)).trans a1, a2, a3⟩
    have hkill := kill_heap hH hk
    refine ⟨{ G with lim := upd G.lim b (off + len * sz) }, hext, hgok, ⟨hkill.dom, fun i q k' hi hk' => ?_, hkill.inj, fun i q k' hi hk' hn => ?_⟩, ⟨fun i o q k' cs hm hi hk' hb' => ?_, fun i o hm => (ho.dom i o hm).set _ _⟩, ?_⟩
    · obtain ⟨es, q1, q2, q3, q4, q5⟩ := hkill.blk i q k' hi hk'
      exact ⟨es, q1, q2, q3, fun j hj => hext.rep (q4 j hj), q5⟩
    · rcases hset i k' hk' with ⟨rfl, rfl⟩ | ⟨hne, hk'⟩
      · exact absurd rfl hn
      · have hqb : q ≠ b := by
          rintro rfl
          exact hne (hH.inj i id q k' k hi hf hk' hk hn hkne)
        exact (hlimo q hqb).trans (hH.lim i q k' hi hk' hn)
    · rcases hset i k' hk' with ⟨rfl, rfl⟩ | ⟨hne, hk'⟩
      · intro e' ys hy; cases hy
      · intro e' ys hy
        obtain ⟨s', cells, h1, h2, h3, h4⟩ := ho.cell i o q k' cs hm hi hk' hb' e' ys hy
        refine ⟨s', cells, h1, h2, h3, fun gq hg => ?_⟩
        obtain ⟨a1, a2⟩ := h4 gq hg
        have hgb : gq ≠ b := by rintro rfl; rw [hown] at a1; cases a1
        exact ⟨a1, (hlimo gq hgb).trans a2⟩
    · have hflat : ∀ j, j < len * sz → (flat (xs ++ [])).getD j .undef = k.cs.getD (off + j) .undef := by
        intro j hj
        rw [List.append_nil, x3, getD_drop_take _ _ _ _ hj]
      have hfl : (flat (xs ++ [])).length = len * sz := by rw [List.append_nil, x3, hcl]
      have key := Rep.lst (P := P) (M := (Gh.mk (upd G.lim b (off + len * sz)) G.f G.bs G.owner).mem w) e xs [] (some ⟨b, off, none⟩) cap sz b off (fun j => ds.getD (off + j) undef) hsz c2 (by rw [List.append_nil]; exact x2) (by rw [x1]; exact hl) (fun _ => rfl)
        (by
          intro j hj
          rw [hfl] at hj
          show pmOf w _ b (off + j) = _
          unfold pmOf
          show (if off + j < upd G.lim b (off + len * sz) b then _ else _) = _
          rw [upd_same, if_pos (by omega)]
          have hjd : off + j < ds.size := by omega
          simp [World.cell?, hd, hjd])
        (by
          intro j hj
          rw [hfl] at hj
          rw [hflat j hj]
          exact hext.rep (hrep (off + j) (by omega)))
        (by
          intro j hj
          rw [hfl] at hj
          exact hone (off + j) (by omega))
      rw [x1] at key
      exact key

theorem fzAll_sound : ∀ (xs : List AV) {G : Gh} {H : List (Option Blk)} {own : List Loc} {vs : List Value} (g : GOk G w) (hH : HeapRel P G H w) (ho : CellOwns P G H own w) (hl : vs.length = xs.length) (r : ∀ i, i < xs.length → Rep P (G.mem w) (xs.getD i .undef) (vs.getD i undef)),
    ∃ G', Ext G w G' w ∧ GOk G' w ∧ HeapRel P G' (fzAll P xs H).2 w ∧ CellOwns P G' (fzAll P xs H).2 own w ∧ (fzAll P xs H).1.length = xs.length ∧ ∀ i, i < xs.length → Rep P (G'.mem w) ((fzAll P xs H).1.getD i .undef) (vs.getD i undef)
  | [], G, H, own, vs, g, hH, ho, hl, r => ⟨G, Ext.refl _ _, g, hH, ho, rfl, fun i hi => by simp at hi⟩
  | x :: xs, G, H, own, vs, g, hH, ho, hl, r => by
    cases vs with
    | nil => simp at hl
    | cons v vs =>
    have r0 : Rep P (G.mem w) x v := by simpa using r 0 (by simp)
    obtain ⟨G1, e1, g1, h1, o1, rx⟩ := fzOne_sound g hH ho r0
    obtain ⟨G2, e2, g2, h2, o2, l2, r2⟩ := fzAll_sound xs (vs := vs) g1 h1 o1 (by simpa using hl) (fun i hi => by
      have := r (i + 1) (by simpa using hi)
      simp only [List.getD_cons_succ] at this
      exact e1.rep this)
    refine ⟨G2, e1.trans e2, g2, h2, o2, by simp only [fzAll, List.length_cons, l2], ?_⟩
    intro i hi
    cases i with
    | zero => simp only [fzAll, List.getD_cons_zero]; exact e2.rep rx
    | succ i =>
      simp only [fzAll, List.getD_cons_succ]
      exact r2 i (by simpa using hi)

theorem fz_done {G G' : Gh} {w0 : World} {out : Out} {v : Value} (h : CallDone P G w0 out v w G') : ∃ G'', CallDone P G w0 ((fzV P out.1 out.2.1).1, (fzV P out.1 out.2.1).2, out.2.2) v w G'' := by
  obtain ⟨x, H, own⟩ := out
  obtain ⟨hext, hok, hheap, hrep, hown⟩ := h
  simp only at hheap hrep hown ⊢
  have one : ∃ G'', CallDone P G w0 ((fzOne P H x).1, (fzOne P H x).2, own) v w G'' := by
    obtain ⟨G2, e2, g2, h2, o2, r2⟩ := fzOne_sound hok hheap hown hrep
    exact ⟨G2, hext.trans e2, g2, h2, r2, o2⟩
  unfold fzV
  split
  · rename_i xs
    cases hrep with
    | tup _ vs hl hh =>
      obtain ⟨G2, e2, g2, h2, o2, l2, r2⟩ := fzAll_sound xs (vs := vs.toList) hok hheap hown (by simpa using hl) (fun i hi => by
        have := hh i hi
        simpa [List.getD_eq_getElem?_getD, Array.getD_eq_getD_getElem?] using this)
      refine ⟨G2, hext.trans e2, g2, h2, .tup _ vs (by rw [l2]; exact hl) (fun i hi => ?_), o2⟩
      rw [l2] at hi
      have := r2 i hi
      simpa [List.getD_eq_getElem?_getD, Array.getD_eq_getD_getElem?] using this
  · exact one

end
end Go.Proofs.Ytnajopkaepjncaa.Am

/- The abstract machine is right, fourteenth part: an operation, with the calls. -/
namespace Go.Proofs.Ytnajopkaepjncaa.Am
set_option linter.unusedVariables false
set_option linter.unusedSimpArgs false
open Go.RowKit

section
variable {P : Program} {w : World}

/-! ### ends in order -/
theorem blt_irrefl (a : Nat) : Nat.blt a a = false := by
  cases h : Nat.blt a a with
  | false => rfl
  | true => have := Nat.blt_eq.mp h; omega
theorem lt_irrefl (x : Loc) : Loc.lt x x = false := by cases x <;> simp [Loc.lt, blt_irrefl]
theorem lt_trans' {x y z : Loc} (h : Loc.lt x y = true) (k : Loc.lt y z = true) : Loc.lt x z = true := by
  cases x <;> cases y <;> cases z <;> simp [Loc.lt] at h k ⊢ <;> omega
theorem lt_tri (x y : Loc) : Loc.lt x y = true ∨ x = y ∨ Loc.lt y x = true := by
  cases x <;> cases y <;> simp [Loc.lt] <;> omega
theorem mem_insL {x m : Loc} {l : List Loc} : m ∈ insL x l ↔ m = x ∨ m ∈ l := by
  induction l with
  | nil => simp [insL]
  | cons y r ih =>
    simp only [insL]
    cases h1 : Loc.lt x y with
    | true => simp
    | false =>
      cases h2 : Loc.beq x y with
      | true =>
        rw [beq_loc] at h2; subst h2
        simp
      | false =>
        simp only [cond_false, List.mem_cons, ih]
        constructor
        · rintro (h | h | h) <;> simp [h]
        · rintro (h | h | h) <;> simp [h]
theorem mem_canon {m : Loc} {l : List Loc} : m ∈ canon l ↔ m ∈ l := by
  induction l with
  | nil => simp [canon]
  | cons y r ih => show m ∈ insL y (canon r) ↔ _; rw [mem_insL, ih, List.mem_cons]
theorem sorted_insL {x : Loc} {l : List Loc} (h : l.Pairwise fun a b => Loc.lt a b = true) : (insL x l).Pairwise fun a b => Loc.lt a b = true := by
  induction l with
  | nil => simp [insL]
  | cons y r ih =>
    rw [List.pairwise_cons] at h
    simp only [insL]
    cases h1 : Loc.lt x y with
    | true =>
      simp only [cond_true]
      rw [List.pairwise_cons, List.pairwise_cons]
      exact ⟨fun a ha => by
        rcases List.mem_cons.1 ha with rfl | ha
        · exact h1
        · exact lt_trans' h1 (h.1 a ha), h⟩
    | false =>
      cases h2 : Loc.beq x y with
      | true => simp only [cond_false, cond_true]; rw [List.pairwise_cons]; exact h
      | false =>
        simp only [cond_false]
        rw [List.pairwise_cons]
        refine ⟨fun a ha => ?_, ih h.2⟩
        rcases mem_insL.1 ha with rfl | ha
        · rcases lt_tri a y with e | e | e
          · rw [e] at h1; cases h1
          · rw [beq_loc.2 e] at h2; cases h2
          · exact e
        · exact h.1 a ha
theorem sorted_canon (l : List Loc) : (canon l).Pairwise fun a b => Loc.lt a b = true := by
  induction l with
  | nil => exact List.Pairwise.nil
  | cons y r ih => exact sorted_insL ih
theorem sorted_ext : ∀ {l m : List Loc}, l.Pairwise (fun a b => Loc.lt a b = true) → m.Pairwise (fun a b => Loc.lt a b = true) → (∀ x, x ∈ l ↔ x ∈ m) → l = m
  | [], [], _, _, _ => rfl
  | [], y :: r, _, _, h => by have := (h y).2 (by simp); cases this
  | x :: l, [], _, _, h => by have := (h x).1 (by simp); cases this
  | x :: l, y :: m, hl, hm, h => by
    rw [List.pairwise_cons] at hl hm
    have hxy : x = y := by
      rcases List.mem_cons.1 ((h x).1 (by simp)) with e | e
      · exact e
      · rcases List.mem_cons.1 ((h y).2 (by simp)) with e' | e'
        · exact e'.symm
        · have := lt_trans' (hl.1 y e') (hm.1 x e); rw [lt_irrefl] at this; cases this
    subst hxy
    congr 1
    refine sorted_ext hl.2 hm.2 fun z => ?_
    constructor
    · intro hz
      rcases List.mem_cons.1 ((h z).1 (by simp [hz])) with e | e
      · subst e; have := hl.1 z hz; rw [lt_irrefl] at this; cases this
      · exact e
    · intro hz
      rcases List.mem_cons.1 ((h z).2 (by simp [hz])) with e | e
      · subst e; have := hm.1 z hz; rw [lt_irrefl] at this; cases this
      · exact e
theorem canon_ext {l m : List Loc} (h : ∀ x, x ∈ l ↔ x ∈ m) : canon l = canon m :=
  sorted_ext (sorted_canon l) (sorted_canon m) fun x => by rw [mem_canon, mem_canon]; exact h x

/-- No function of the program is the one that the model asks by name. -/
def NoNum (P : Program) : Prop := ∀ (f : Nat) (fn : Func), P.funcs[f]? = some fn → (fn.name == "runtime.NumGoroutine") = false

theorem run_callFunc {f : FuncId} (hN : NoNum P) (hb : hasBody P f = true) (args : Array Value) : (callFunc f args).run P w = .ok (.enter f args) w := by
  unfold hasBody at hb
  cases hf : P.funcs[f]? with
  | none => rw [hf] at hb; cases hb
  | some fn =>
    rw [hf] at hb
    have h1 := hN f fn hf
    have h2 : fn.body.isNone = false := by cases hbd : fn.body <;> simp [hbd] at hb ⊢
    simp only [callFunc, Sem.run_bind, run_program, Result.andThen_ok, hf, h1, h2, Bool.false_eq_true, if_false, Sem.run_pure]

theorem args_append {M : Mem} {xs ys : List AV} {us vs : Array Value} (h : ArgsRep P M xs us) (k : ArgsRep P M ys vs) : ArgsRep P M (xs ++ ys) (us ++ vs) := by
  refine ⟨by rw [Array.size_append, List.length_append, h.1, k.1], ?_⟩
  intro i hi
  rw [List.length_append] at hi
  simp only [List.getD_eq_getElem?_getD, Array.getD_eq_getD_getElem?]
  by_cases hlt : i < xs.length
  · have := h.2 i hlt
    simp only [List.getD_eq_getElem?_getD, Array.getD_eq_getD_getElem?] at this
    rw [List.getElem?_append_left hlt, Array.getElem?_append_left (by rw [h.1]; exact hlt)]
    exact this
  · have := k.2 (i - xs.length) (by omega)
    simp only [List.getD_eq_getElem?_getD, Array.getD_eq_getD_getElem?] at this
    rw [List.getElem?_append_right (by omega), Array.getElem?_append_right (by rw [h.1]; omega), h.1]
    exact this
theorem evalL_args {M : Mem} {env : List (Nat × AV)} {a : Act} (he : EnvRel P M env a) {xs : Array Operand} {vs : List AV} (h : evalL env xs.toList = some vs) : ArgsRep P M vs (xs.map a.eval) := by
  obtain ⟨h1, h2⟩ := evalL_rel xs.toList vs h (he.ops _)
  refine ⟨by simpa using h1, ?_⟩
  intro i hi
  have := h2 i hi
  simpa [List.getD_eq_getElem?_getD, Array.getD_eq_getD_getElem?] using this

/-- What the operation is, where it is a call: into which function, with what. -/
theorem call_enters {G : Gh} {env : List (Nat × AV)} {H : List (Option Blk)} {own : List Loc} {a : Act} {call : CallA} {ops : List Oper} {o : Oper} {r : Res} (hN : NoNum P)
    (g : GOk G w) (hH : HeapRel P G H w) (he : EnvRel P (G.mem w) env a) (hc : isCallOp o.op = true) (h : core call P ops o env H own = some r) :
    ∃ f args vals out, (execOp a.eval o).run P w = .ok (.enter f vals) w ∧ ArgsRep P (G.mem w) args vals ∧ call f args H (canon (own.filter Loc.isCell)) = some out ∧ r = ⟨out.1, out.2.1, own.filter (fun l => !l.isCell) ++ out.2.2.filter Loc.isCell, false⟩ := by
  have fin : ∀ f args vals, callA call P H own f args = some r → ArgsRep P (G.mem w) args vals → (execOp a.eval o).run P w = (callFunc f vals).run P w → ∃ f args vals out, (execOp a.eval o).run P w = .ok (.enter f vals) w ∧ ArgsRep P (G.mem w) args vals ∧ call f args H (canon (own.filter Loc.isCell)) = some out ∧ r = ⟨out.1, out.2.1, own.filter (fun l => !l.isCell) ++ out.2.2.filter Loc.isCell, false⟩ := by
    intro f args vals hca har hrun
    unfold callA at hca
    cases hb : hasBody P f with
    | false => rw [hb] at hca; cases hca
    | true =>
      rw [hb] at hca
      simp only [cond_true] at hca
      split at hca
      · rename_i x H' own' hcl
        injection hca with hca
        exact ⟨f, args, vals, _, hrun.trans (run_callFunc hN hb vals), har, hcl, hca.symm⟩
      · cases hca
  obtain ⟨dst, op, ty, pos, after, guard⟩ := o
  simp only at hc fin
  unfold isCallOp at hc
  split at hc
  case h_3 => cases hc
  · rename_i f args at_
    unfold core at h
    simp only at h
    split at h
    · rename_i q cap vs hf hvs
      have rf := he.opd hf
      generalize hfv : a.eval f = fv at rf
      cases rf with
      | fn _ _ caps hl hh =>
        refine fin q _ (args.map a.eval ++ caps) h (args_append (evalL_args he hvs) ⟨hl, hh⟩) ?_
        simp only [execOp, resolve, hfv, Deferred.ofValue, Sem.run_bind, Sem.run_pure, Result.andThen_ok, invoke, Array.empty_append]
    · cases h
  · rename_i rv name args at_
    unfold core at h
    simp only at h
    split at h
    · rename_i t v vs hr hvs
      have rr := he.opd hr
      generalize hrv : a.eval rv = iv at rr
      cases rr with
      | iface _ _ u ru =>
        split at h
        · rename_i f x hm
          have hargs := evalL_args he hvs
          -- the method
          have hmeth : ∃ xv, (method (P.types.size + Made.depth) t u name).run P w = .ok (f, xv) w ∧ Rep P (G.mem w) x xv := by
            have hmd : 0 < Made.depth := by decide
            obtain ⟨q, hq⟩ : ∃ q, P.types.size + Made.depth = q + 1 := ⟨P.types.size + Made.depth - 1, by omega⟩
            rw [hq]
            unfold methodA at hm
            split at hm
            · rename_i i hi
              split at hm
              · rename_i m hfind
                split at hm
                · rename_i hp0
                  have hpath : m.path.toList = [] := by
                    have : m.path = #[] := Array.eq_empty_of_size_eq_zero hp0
                    rw [this]
                  have hie : m.path.isEmpty = true := by simp [Array.isEmpty, hp0]
                  simp only [method, Sem.run_bind, run_typeInfo' hi, Result.andThen_ok, hfind, hpath, follow, Sem.run_pure]
                  split at hm
                  · rename_i f' pe hmf hu
                    injection hm with hm; injection hm with h1 h2; subst h1; subst h2
                    exact ⟨u, by simp only [hmf, Sem.run_bind, receiverAt, run_underlying' hu, Result.andThen_ok, Place.get, Sem.run_pure], ru⟩
                  · rename_i f' e hmf hu
                    split at hm
                    · rename_i id off
                      cases hl : loadA P H e (.ptr id off) with
                      | none => rw [hl] at hm; cases hm
                      | some y =>
                        rw [hl] at hm; simp only [Option.map_some, Option.some.injEq, Prod.mk.injEq] at hm
                        obtain ⟨h1, h2⟩ := hm; subst h1; subst h2
                        obtain ⟨z, hz, rz, _⟩ := load_sound hl ru (fun id off b k _ hf hk => hH.blk id b k hf hk)
                        cases ru with
                        | ptr _ _ b hfb =>
                          refine ⟨z, ?_, rz⟩
                          have hz' : (loadVar e ⟨b, off, none⟩).run P w = .ok z w := by
                            simpa only [Instr.loadAt, Instr.sureAddr, Sem.run_bind, Sem.run_pure, Result.andThen_ok] using hz
                          have hw : (Builtin.ssaWrapNilChk_ #[t] t #[.pointer (some ⟨b, off, none⟩), strVal "", strVal ((name.splitOn ".").getLastD name)]).run P w = .ok (.pointer (some ⟨b, off, none⟩)) w := by
                            rfl
                          simp only [hmf, Sem.run_bind, receiverAt, run_underlying' hu, Result.andThen_ok, Place.get, Sem.run_pure, hie, if_true, hw, asAddr, hz']
                    · cases hm
                  · rename_i f' e hmf hu
                    injection hm with hm; injection hm with h1 h2; subst h1; subst h2
                    exact ⟨u, by simp only [hmf, Sem.run_bind, receiverAt, run_underlying' hu, Result.andThen_ok, Place.get, Sem.run_pure], ru⟩
                  · rename_i f' e hmf hu
                    injection hm with hm; injection hm with h1 h2; subst h1; subst h2
                    exact ⟨u, by simp only [hmf, Sem.run_bind, receiverAt, run_underlying' hu, Result.andThen_ok, Place.get, Sem.run_pure], ru⟩
                  · rename_i f' e hmf hu
                    injection hm with hm; injection hm with h1 h2; subst h1; subst h2
                    exact ⟨u, by simp only [hmf, Sem.run_bind, receiverAt, run_underlying' hu, Result.andThen_ok, Place.get, Sem.run_pure], ru⟩
                  · cases hm
                · cases hm
              · cases hm
            · cases hm
          obtain ⟨xv, hmr, rx⟩ := hmeth
          refine fin f _ (#[xv] ++ args.map a.eval) h (args_append (xs := [x]) (us := #[xv]) ⟨rfl, fun i hi => by
            have : i = 0 := by simpa using hi
            subst this; exact rx⟩ hargs) ?_
          have hall : (#[a.eval rv] ++ args.map a.eval) = (a.eval rv :: (args.map a.eval).toList).toArray := by apply Array.ext'; simp
          have hex : (#[a.eval rv] ++ args.map a.eval).extract 1 (#[a.eval rv] ++ args.map a.eval).size = args.map a.eval := by
            rw [hall]
            apply Array.ext'
            simp [List.take_of_length_le]
          have hg0 : (#[a.eval rv] ++ args.map a.eval)[0]? = some (a.eval rv) := by rw [hall]; rfl
          have hinv : (invoke (.fn (.method name) #[]) (#[a.eval rv] ++ args.map a.eval)).run P w = (callMethod (a.eval rv) name (args.map a.eval)).run P w := by
            simp only [invoke, hg0, hex]
          have hexec : (execOp a.eval { dst := dst, op := .call { callee := .invoke rv name, args := args, argTypes := at_ }, type := ty, pos := pos, after := after, guard := guard }).run P w = (invoke (.fn (.method name) #[]) (#[a.eval rv] ++ args.map a.eval)).run P w := by
            simp only [execOp, resolve, Sem.run_bind, Sem.run_pure, Result.andThen_ok]
          rw [hexec, hinv, hrv]
          simp only [callMethod, Sem.run_bind, run_program, Result.andThen_ok, hmr]
        · cases h
    · cases h

/-- AN OPERATION: whatever it is, Go's step is the machine's. -/
theorem op_wp {nt : Nat} {G : Gh} {st st' : St} {a : Act} {call : CallA} {pre : Option (Nat × Bool)} {ops : List Oper} {o : Oper} {K : Act → World → Prop} {Q : Exit → Act → World → Prop} (hN : NoNum P) (hcall : CallSound P call)
    (hR : Rel P G nt st a w) (h : stepOp call P nt pre ops o st = some st') (hK : ∀ a' w' G', Rel P G' nt st' a' w' → Ext G w G' w' → K a' w') : o.wp P a w K Q := by
  unfold stepOp at h
  split at h
  case h_2 => cases h
  rename_i r hcoreP
  obtain ⟨d0, hd0⟩ := fresh_slot r.own
  obtain ⟨d, hd1, hd2⟩ : ∃ d, (∀ q, o.dst = some q → q = d) ∧ (o.dst = none → Loc.slot d ∉ r.own) := by
    cases hdst : o.dst with
    | none => exact ⟨d0, (fun q e => by cases e), fun _ => hd0⟩
    | some q => exact ⟨q, (fun q' e => by injection e with e; exact e.symm), fun e => by cases e⟩
  have hcases : (core call P ops o st.env st.H st.own = some r ∨ ∃ e, newSl P e o.op st.env st.H st.own = some r) ∨ ∃ id, newAt P o st.env st.H st.own id = some r := by
    unfold coreP at hcoreP
    have hS : coreS call P ops o st.env st.H st.own = some r → (core call P ops o st.env st.H st.own = some r ∨ ∃ e, newSl P e o.op st.env st.H st.own = some r) ∨ ∃ id, newAt P o st.env st.H st.own id = some r := by
      intro h
      unfold coreS at h
      split at h
      · exact .inl (.inr ⟨_, h⟩)
      · exact .inl (.inl h)
    split at hcoreP
    · exact hS hcoreP
    · cases ha : allocOp o with
      | false =>
        rw [ha] at hcoreP
        simp only [cond_false] at hcoreP
        rename_i b lt
        cases hl : (lt && !(lateOk b o st.env)) with
        | true => rw [hl] at hcoreP; cases hcoreP
        | false => rw [hl] at hcoreP; exact hS hcoreP
      | true =>
        rw [ha] at hcoreP
        simp only [cond_true] at hcoreP
        split at hcoreP
        · split at hcoreP
          · exact .inr ⟨_, hcoreP⟩
          · cases hcoreP
        · cases hcoreP
  unfold Oper.wp
  rcases hcases with (hcore | ⟨e, hsl⟩) | ⟨id, hnew⟩
  case inl.inr =>
    obtain ⟨v, w', G', hrun, hdone⟩ := newSl_sound hR.ok hR.heap hR.own hR.env hsl d
    obtain ⟨h1, h2⟩ := put_sound hR h d hd1 hd2 hdone
    rw [hrun, Oper.upon_value]; exact hK _ _ _ h1 h2
  case inr =>
    obtain ⟨v, w', G', hrun, hdone⟩ := newAt_sound hR.ok hR.heap hR.own hR.env hnew d
    obtain ⟨h1, h2⟩ := put_sound hR h d hd1 hd2 hdone
    rw [hrun, Oper.upon_value]; exact hK _ _ _ h1 h2
  cases hc : isCallOp o.op with
  | false =>
    obtain ⟨v, w', G', hrun, hdone⟩ := core_sound hR.ok hR.heap hR.own hR.env hc hcore d
    obtain ⟨h1, h2⟩ := put_sound hR h d hd1 hd2 hdone
    rcases hrun with hrun | ⟨hrun, rfl⟩
    · rw [hrun, Oper.upon_value]; exact hK _ _ _ h1 h2
    · rw [hrun, Oper.upon_skip]; exact hK _ _ _ h1 h2
  | true =>
    obtain ⟨f, args, vals, out, hrun, har, hcl, hr⟩ := call_enters hN hR.ok hR.heap hR.env hc hcore
    rw [hrun, Oper.upon_enter]
    have hcs := hcall f args st.H _ out hcl G.callee w vals (callee_gok hR.ok) ⟨hR.heap.dom, hR.heap.blk, hR.heap.inj, hR.heap.lim⟩ ⟨fun id off b k cs hm hf hk hb => callee_own (hR.own.cell id off b k cs (List.mem_filter.1 (mem_canon.1 hm)).1 hf hk hb), fun id off hm => hR.own.dom id off (List.mem_filter.1 (mem_canon.1 hm)).1⟩ har
    refine hcs.mono ?_
    rintro e w' ⟨v, G', rfl, hdone⟩
    have hd := back_done hR.ok hR.heap hR.own hdone d
    rw [← hr] at hd
    obtain ⟨h1, h2⟩ := put_sound hR h d hd1 hd2 hd
    exact hK _ _ _ h1 h2

end
end Go.Proofs.Ytnajopkaepjncaa.Am

/- The abstract machine is right, fifteenth part: statements, functions, and all of it. -/
namespace Go.Proofs.Ytnajopkaepjncaa.Am
set_option linter.unusedVariables false
set_option linter.unusedSimpArgs false
open Go.RowKit

/-! ### what is asked of a region that draws its order, by its text -/
def opSlots (o : Oper) : List Nat := o.op.operands.toList.filterMap fun
  | .tmp t => some t
  | _ => none
def guardSlot (ops : List Oper) (o : Oper) : List Nat :=
  match o.guard with
  | some (j, _) => match ops[j]? with
    | some p => p.dst.toList
    | none => []
  | none => []
def reads (ops : List Oper) (o : Oper) : List Nat := guardSlot ops o ++ opSlots o
def heapOp (o : Oper) : Bool :=
  match o.op with
  | .store _ _ _ => true
  | .call { callee := .value _, .. } => true
  | .call { callee := .invoke _ _, .. } => true
  | _ => slOp o
def memOp (o : Oper) : Bool :=
  heapOp o || match o.op with
    | .load _ _ => true
    | .alloc _ => true
    | .box _ _ => true
    | _ => false
def pairOk (ops : List Oper) (bs : List Nat) (i j : Nat) (x y : Oper) : Bool :=
  (bs.getD j 0).testBit i ||
    (!(match x.dst with | some d => (reads ops y).contains d || y.dst == some d | none => false) && !(match y.dst with | some d => (reads ops x).contains d | none => false) &&
     !(ends ops x && ends ops y) && (!((heapOp x && memOp y) || (memOp x && heapOp y)) || (late ops && ((isStore x && isLoad y) || (isLoad x && isStore y)))))
def regionOk (ops : List Oper) : Bool :=
  let bs := befores ops []
  (ops.zipIdx.all fun (o, i) => o.after.toList.all fun e => !(Region.binds .any e) || Nat.blt e.on i) &&
  (ops.zipIdx.all fun (o, i) => match o.guard with | some (j, _) => (bs.getD i 0).testBit j | none => true) &&
  ops.zipIdx.all fun (y, j) => ops.zipIdx.all fun (x, i) => !(Nat.blt i j) || (pairOk ops bs i j x y && (match x.dst with | some d => !(y.dst == some d) | none => true))
def codeOk : Code → Bool
  | .region _ ops draw => !draw || regionOk ops.toList
  | .seq a b => codeOk a && codeOk b
  | .cond _ a b => codeOk a && codeOk b
  | .block _ c => codeOk c
  | .loop c => codeOk c
  | _ => true

section
variable {P : Program}

def DrawThm (P : Program) : Prop := ∀ (call : CallA), CallSound P call → ∀ (nt id : Nat) (ops : Array Oper) (st st' : St) (G : Gh) (a : Act) (w : World), regionOk ops.toList = true → runOps call P nt (some (st.H.length, late ops.toList)) ops.toList ops.toList { st with H := st.H ++ List.replicate (allocs ops.toList) none } = some st' → Rel P G nt st a w →
  ∀ Q, (∀ a' w' G', Rel P G' nt st' a' w' → Ext G w G' w' → Q Exit.normal a' w') → (Code.region id ops true).wp P Q a w

structure POk (P : Program) : Prop where
  num : NoNum P
  code : ∀ (f : Nat) (fn : Func) (c : Code), P.funcs[f]? = some fn → fn.body = some c → codeOk c = true
  draw : DrawThm P

theorem yielded_rel {w : World} {M : Mem} {ops : Array Oper} {env : List (Nat × AV)} {a : Act} (he : EnvRel P M env a) {o : Oper} {b : Bool} (h : wantedA ops.toList env o = some b) : Region.wanted o (yielded ops a.tmps) = b := by
  unfold wantedA at h
  unfold Region.wanted
  split at h
  · rename_i hg; injection h with h; subst h; rw [hg]
  · rename_i j want hg
    rw [hg]
    simp only
    split at h
    · rename_i d op ty pos after guard hj
      have hj' : ops[j]? = some { dst := some d, op := op, type := ty, pos := pos, after := after, guard := guard } := by rw [← hj, Array.getElem?_toList]
      have hr := he d
      unfold yielded
      rw [hj']
      simp only [Option.bind_some]
      split at h
      · rename_i q hq
        injection h with h; subst h
        rw [hq] at hr
        have := bool_inv hr
        rw [Array.getD_eq_getD_getElem?] at this
        cases ht : a.tmps[d]? with
        | none => rw [ht] at this; cases this
        | some v =>
          rw [ht] at this
          have hv : v = .bool q := this
          subst hv
          cases q <;> cases want <;> rfl
      · rename_i hq
        injection h with h; subst h
        rw [hq] at hr
        rw [Array.getD_eq_getD_getElem?] at hr
        cases ht : a.tmps[d]? with
        | none => cases want <;> rfl
        | some v =>
          rw [ht] at hr
          have hr' : Rep P M (.tup []) v := hr
          cases hr'
          cases want <;> rfl
      · cases h
    · cases h

theorem unwanted_put {nt : Nat} {w : World} {st st' : St} {a : Act} {G : Gh} {dst : Option Nat} (hR : Rel P G nt st a w) (hp : Res.put ⟨.tup [], st.H, st.own, false⟩ nt st.env dst = some st') : Rel P G nt st' (a.put dst undef) w := by
  obtain ⟨d0, hd0⟩ := fresh_slot st.own
  obtain ⟨d, hd1, hd2⟩ : ∃ d, (∀ q, dst = some q → q = d) ∧ (dst = none → Loc.slot d ∉ st.own) := by
    cases hdst : dst with
    | none => exact ⟨d0, (fun q e => by cases e), fun _ => hd0⟩
    | some q => exact ⟨q, (fun q' e => by injection e with e; exact e.symm), fun e => by cases e⟩
  exact (put_sound hR hp d hd1 hd2 (done_same hR.ok hR.heap hR.own d (.tup [] #[] rfl (fun i hi => by simp at hi)))).1

/-- A region in the order of its text. -/
theorem list_sound {call : CallA} {nt : Nat} {ops : Array Oper} (hN : NoNum P) (hcall : CallSound P call) : ∀ (l : List Oper) (st st' : St) (G : Gh) (a : Act) (w : World), runOps call P nt none ops.toList l st = some st' → Rel P G nt st a w →
    ∀ Q, (∀ a' w' G', Rel P G' nt st' a' w' → Ext G w G' w' → Q Exit.normal a' w') → wpList P ops Q l a w := by
  intro l
  induction l with
  | nil =>
    intro st st' G a w h hR Q hQ
    simp only [runOps, Option.some.injEq] at h; subst h
    exact hQ a w G hR (Ext.refl _ _)
  | cons o r ih =>
    intro st st' G a w h hR Q hQ
    simp only [runOps] at h
    split at h
    case h_2 => cases h
    rename_i st1 hst1
    unfold stepW at hst1
    refine wpList_step fun K hK => ?_
    split at hst1
    · rename_i hw
      rw [yielded_rel (w := w) hR.env hw, if_pos rfl]
      exact op_wp hN hcall hR hst1 fun a' w' G' hR' hE => hK _ _ (ih st1 st' G' a' w' h hR' Q fun a2 w2 G2 h2 e2 => hQ a2 w2 G2 h2 (hE.trans e2))
    · rename_i hw
      rw [yielded_rel (w := w) hR.env hw]
      simp only [Bool.false_eq_true, if_false]
      exact hK _ _ (ih st1 st' G _ w h (unwanted_put hR hst1) Q hQ)
    · cases hst1

theorem keep_rel {nt : Nat} {G : Gh} {st : St} {a : Act} {w : World} (vars : List Nat) (h : Rel P G nt st a w) : Rel P G nt (keep vars st) a w := by
  have hlook : ∀ s, look (keep vars st).env s = look st.env s ∨ (look (keep vars st).env s = .undef ∧ vars.any (Nat.beq s) = false) := by
    intro s
    show look (vars.map fun s => (s, look st.env s)) s = _ ∨ _
    induction vars with
    | nil => exact .inr ⟨rfl, rfl⟩
    | cons v r ih =>
      simp only [List.map_cons, look_cons]
      by_cases hs : s = v
      · subst hs; rw [if_pos rfl]; exact .inl rfl
      · rcases ih with ih | ⟨ih1, ih2⟩
        · rw [if_neg hs]; exact .inl ih
        · refine .inr ⟨by show look ((v, look st.env v) :: _) s = _; rw [look_cons, if_neg hs]; exact ih1, ?_⟩
          simp only [List.any_cons, ih2, Bool.or_false]
          cases hb : Nat.beq s v with
          | false => rfl
          | true => exact absurd (Nat.eq_of_beq_eq_true hb) hs
  refine ⟨h.ok, h.heap, ⟨?_, ?_, ?_⟩, ?_, h.size, h.defers⟩
  · intro s hs
    have hm := List.mem_filter.1 hs
    have := h.own.slot s hm.1
    rcases hlook s with e | ⟨_, e2⟩
    · rw [e]; exact this
    · have h2 : vars.any (Nat.beq s) = true := hm.2
      rw [e2] at h2; cases h2
  · intro id off b k cs hm
    exact h.own.cell id off b k cs (List.mem_filter.1 hm).1
  · intro id off hm
    exact h.own.dom id off (List.mem_filter.1 hm).1
  · intro s
    rcases hlook s with e | ⟨e, _⟩
    · rw [e]; exact h.env s
    · rw [e]; exact .undef _

def exitOf : Ex → Exit
  | .normal => .normal
  | .exit id => .exit id
  | .ret => .ret

def CodeSound (P : Program) (ex : (Nat → List Nat) → Nat → Code → St → Option (Ex × St)) : Prop := ∀ vars nt c st e st', ex vars nt c st = some (e, st') → codeOk c = true → ∀ G a w, Rel P G nt st a w →
  ∀ Q, (∀ a' w' G', Rel P G' nt st' a' w' → Ext G w G' w' → Q (exitOf e) a' w') → c.wp P Q a w

theorem loop_sound {K : Know} {vars : Nat → List Nat} {nt : Nat} {c : Code} {e : Ex} {st' : St} (hok : codeOk c = true) {G0 : Gh} {w0 : World} {Q : Exit → Act → World → Prop}
    (hQ : ∀ a' w' G', Rel P G' nt st' a' w' → Ext G0 w0 G' w' → Q (exitOf e) a' w') (n : Nat) (hall : ∀ m, m < n → CodeSound P (exec P K m)) (st : St) (G : Gh) (a : Act) (w : World) (h : exec P K n vars nt (.loop c) st = some (e, st')) (hR : Rel P G nt st a w) (hE : Ext G0 w0 G w) :
    (Code.loop c).wp P Q a w := by
  intro b k cs
  have key : ∀ m, m ≤ n → ∀ st G a w, exec P K m vars nt (.loop c) st = some (e, st') → Rel P G nt st a w → Ext G0 w0 G w →
      ∃ e' a' w', Q e' a' w' ∧ Arrives P (lone (b.at a (.code c :: .inLoop c :: k)) cs w) b k cs e' a' w' := by
    intro m
    induction m with
    | zero => intro _ st G a w h1; simp [exec] at h1
    | succ m ih =>
      intro hmn st1 G1 a1 w1 h1 hR1 hE1
      have hs := hall m (by omega)
      simp only [exec, execWith] at h1
      have body : ∀ Q1 : Exit → Act → World → Prop, c.wp P Q1 a1 w1 → ∃ e' a' w', Q1 e' a' w' ∧ Arrives P (lone (b.at a1 (.code c :: .inLoop c :: k)) cs w1) b (.inLoop c :: k) cs e' a' w' := fun Q1 h => h b (.inLoop c :: k) cs
      split at h1
      · rename_i st2 hst2
        obtain ⟨e2, a2, w2, hq, harr⟩ := body (Exit.then (fun a' w' => ∃ G2, Rel P G2 nt st2 a' w' ∧ Ext G0 w0 G2 w') Q) (hs vars nt c st1 .normal st2 hst2 hok G1 a1 w1 hR1 _ fun a2 w2 G2 hR2 hE2 => ⟨G2, hR2, hE1.trans hE2⟩)
        cases e2 with
        | normal =>
          obtain ⟨G2, hR2, hE2⟩ := hq
          obtain ⟨e3, a3, w3, hq3, harr3⟩ := ih (by omega) st2 G2 a2 w2 h1 hR2 hE2
          exact ⟨e3, a3, w3, hq3, .of_steps (Steps.trans harr (.one step_inLoop)) harr3⟩
        | exit id => exact ⟨_, a2, w2, hq, .pass (x := .inLoop c) rfl (fun _ _ => .inl (by simp)) harr⟩
        | goto l => exact ⟨_, a2, w2, hq, .pass (x := .inLoop c) rfl (fun _ _ => .inl (by simp)) harr⟩
        | ret => exact ⟨_, a2, w2, hq, .pass (x := .inLoop c) rfl (fun _ _ => .inl (by simp)) harr⟩
        | panic ch => exact ⟨_, a2, w2, hq, .pass (x := .inLoop c) rfl (fun _ _ => .inl (by simp)) harr⟩
        | outgrown => exact ⟨_, a2, w2, hq, .pass (x := .inLoop c) rfl (fun _ _ => .inl (by simp)) harr⟩
      · rename_i r hne
        obtain ⟨e2, a2, w2, hq, harr⟩ := body (Exit.then (fun _ _ => False) Q) (hs vars nt c st1 e st' h1 hok G1 a1 w1 hR1 _ fun a2 w2 G2 hR2 hE2 => by
          cases e with
          | normal => exact absurd h1 (hne st')
          | exit id' => exact hQ a2 w2 G2 hR2 (hE1.trans hE2)
          | ret => exact hQ a2 w2 G2 hR2 (hE1.trans hE2))
        cases e2 with
        | normal => exact hq.elim
        | exit id => exact ⟨_, a2, w2, hq, .pass (x := .inLoop c) rfl (fun _ _ => .inl (by simp)) harr⟩
        | goto l => exact ⟨_, a2, w2, hq, .pass (x := .inLoop c) rfl (fun _ _ => .inl (by simp)) harr⟩
        | ret => exact ⟨_, a2, w2, hq, .pass (x := .inLoop c) rfl (fun _ _ => .inl (by simp)) harr⟩
        | panic ch => exact ⟨_, a2, w2, hq, .pass (x := .inLoop c) rfl (fun _ _ => .inl (by simp)) harr⟩
        | outgrown => exact ⟨_, a2, w2, hq, .pass (x := .inLoop c) rfl (fun _ _ => .inl (by simp)) harr⟩
  obtain ⟨e', a', w', hq, harr⟩ := key n (Nat.le_refl _) st G a w h hR hE
  exact ⟨e', a', w', hq, .of_steps (.one step_loop) harr⟩

theorem code_step {K : Know} (hP : POk P) (n : Nat) (hcall : CallSound P (callN P K n)) (hall : ∀ m, m < n + 1 → CodeSound P (exec P K m)) : CodeSound P (exec P K (n + 1)) := by
  have hex := hall n (Nat.lt_succ_self n)
  intro vars nt c st e st' h hok G a w hR Q hQ
  have hfull := h
  simp only [exec] at h
  cases c with
  | skip => simp only [execWith, Option.some.injEq, Prod.mk.injEq] at h; obtain ⟨rfl, rfl⟩ := h; exact wp_skip (hQ a w G hR (Ext.refl _ _))
  | region id ops draw =>
    simp only [execWith] at h
    split at h
    · rename_i st1 hst1
      injection h with h; injection h with h1 h2; subst h1; subst h2
      have hQ' : ∀ a' w' G', Rel P G' nt st1 a' w' → Ext G w G' w' → Q Exit.normal a' w' := fun a' w' G' h1 h2 => hQ a' w' G' (keep_rel (vars id) h1) h2
      cases draw with
      | false => exact wp_region_list (list_sound hP.num hcall ops.toList st st1 G a w hst1 hR Q hQ')
      | true =>
        simp only [codeOk, Bool.not_true, Bool.false_or] at hok
        exact hP.draw _ hcall nt id ops st st1 G a w hok hst1 hR Q hQ'
    · cases h
  | seq x y =>
    simp only [execWith] at h
    simp only [codeOk, Bool.and_eq_true] at hok
    split at h
    · rename_i st1 hst1
      refine wp_seq (hex vars nt x st .normal st1 hst1 hok.1 G a w hR _ ?_)
      intro a1 w1 G1 hR1 hE1
      exact hex vars nt y st1 e st' h hok.2 G1 a1 w1 hR1 Q fun a2 w2 G2 h2 e2 => hQ a2 w2 G2 h2 (hE1.trans e2)
    · rename_i r hne
      refine wp_seq (hex vars nt x st e st' h hok.1 G a w hR _ ?_)
      intro a1 w1 G1 hR1 hE1
      cases e with
      | normal => exact absurd h (hne st')
      | exit id => exact hQ a1 w1 G1 hR1 hE1
      | ret => exact hQ a1 w1 G1 hR1 hE1
  | cond c x y =>
    simp only [execWith] at h
    simp only [codeOk, Bool.and_eq_true] at hok
    split at h
    · rename_i t ht
      have := bool_inv (hR.env.opd ht)
      refine wp_cond this ?_
      cases t with
      | true => exact hex vars nt x st e st' h hok.1 G a w hR Q hQ
      | false => exact hex vars nt y st e st' h hok.2 G a w hR Q hQ
    · cases h
  | block id c =>
    simp only [execWith] at h
    simp only [codeOk] at hok
    split at h
    · rename_i i st1 hst1
      refine wp_block (hex vars nt c st (.exit i) st1 hst1 hok G a w hR _ ?_)
      intro a1 w1 G1 hR1 hE1
      cases hi : Nat.beq i id with
      | true =>
        rw [hi] at h; simp only [cond_true, Option.some.injEq, Prod.mk.injEq] at h
        obtain ⟨rfl, rfl⟩ := h
        have := Nat.eq_of_beq_eq_true hi
        show Exit.inBlock id Q (.exit i) a1 w1
        simp only [Exit.inBlock, this, if_true]
        exact hQ a1 w1 G1 hR1 hE1
      | false =>
        rw [hi] at h; simp only [cond_false, Option.some.injEq, Prod.mk.injEq] at h
        obtain ⟨rfl, rfl⟩ := h
        show Exit.inBlock id Q (.exit i) a1 w1
        have hne : i ≠ id := by rintro rfl; rw [Nat.beq_refl] at hi; cases hi
        simp only [Exit.inBlock, hne, if_false]
        exact hQ a1 w1 G1 hR1 hE1
    · rename_i r hne
      refine wp_block (hex vars nt c st e st' h hok G a w hR _ ?_)
      intro a1 w1 G1 hR1 hE1
      cases e with
      | normal => exact hQ a1 w1 G1 hR1 hE1
      | exit id' => exact absurd h (hne id' st')
      | ret => exact hQ a1 w1 G1 hR1 hE1
  | loop c => exact loop_sound (by simpa only [codeOk] using hok) hQ (n + 1) hall st G a w hfull hR (Ext.refl _ _)
  | exit id => simp only [execWith, Option.some.injEq, Prod.mk.injEq] at h; obtain ⟨rfl, rfl⟩ := h; exact wp_exit (hQ a w G hR (Ext.refl _ _))
  | label l => simp only [execWith, Option.some.injEq, Prod.mk.injEq] at h; obtain ⟨rfl, rfl⟩ := h; exact wp_label (hQ a w G hR (Ext.refl _ _))
  | ret => simp only [execWith, Option.some.injEq, Prod.mk.injEq] at h; obtain ⟨rfl, rfl⟩ := h; exact wp_ret (hQ a w G hR (Ext.refl _ _))
  | rangeFunc f ps gs b => cases h
  | scope c => cases h
  | goto l => cases h
  | refuse s => cases h

theorem look_zip : ∀ (args : List AV) (k s : Nat), look (zipArgs k args) s = if k ≤ s then args.getD (s - k) .undef else .undef := by
  intro args
  induction args with
  | nil => intro k s; simp [zipArgs, look]
  | cons x r ih =>
    intro k s
    simp only [zipArgs]
    rw [look_cons, ih]
    by_cases h : s = k
    · subst h; rw [if_pos rfl, if_pos (Nat.le_refl _), Nat.sub_self]; rfl
    · rw [if_neg h]
      by_cases hk : k ≤ s
      · rw [if_pos (by omega), if_pos hk]
        have : s - k = (s - (k + 1)) + 1 := by omega
        rw [this, List.getD_cons_succ]
      · rw [if_neg (by omega), if_neg hk]

def resSem (tmps : Array Value) : ResultVar → Sem Value
  | .tmp t => pure (tmps.getD t undef)
  | .cell a t => do loadVar t (← asAddr (tmps.getD a undef))
theorem result_sound {G : Gh} {nt : Nat} {st : St} {a : Act} {w : World} (hR : Rel P G nt st a w) {r : ResultVar} {x : AV} (h : resultA P st r = some x) :
    ∃ v, (resSem a.tmps r).run P w = .ok v w ∧ Rep P (G.mem w) x v := by
  cases r with
  | tmp t => simp only [resultA, Option.some.injEq] at h; subst h; exact ⟨_, rfl, hR.env t⟩
  | cell ad t =>
    simp only [resultA] at h
    split at h
    · rename_i id off hl
      have r1 := hR.env ad
      rw [hl] at r1
      obtain ⟨u, hu, ru, _⟩ := load_sound h r1 (fun id off b k _ hf hk => hR.heap.blk id b k hf hk)
      generalize hv : a.tmps.getD ad undef = v at r1 hu
      cases r1 with
      | ptr _ _ b hf =>
        refine ⟨u, ?_, ru⟩
        simp only [resSem, hv, asAddr, Sem.run_bind, Sem.run_pure, Result.andThen_ok]
        simpa only [Instr.loadAt, Instr.sureAddr, Sem.run_bind, Sem.run_pure, Result.andThen_ok] using hu
    · cases h

theorem results_sound {G : Gh} {nt : Nat} {st : St} {a : Act} {w : World} (hR : Rel P G nt st a w) {fn : Func} {x : AV} (h : resultsA P st fn.results.toList = some x) : ∃ v, (results fn a.tmps).run P w = .ok v w ∧ Rep P (G.mem w) x v := by
  have key : ∀ (rs : List ResultVar) (xs : List AV), rs.mapM (resultA P st) = some xs → ∃ vs : List Value, (rs.mapM (resSem a.tmps)).run P w = .ok vs w ∧ vs.length = xs.length ∧ ∀ i, i < xs.length → Rep P (G.mem w) (xs.getD i .undef) (vs.getD i undef) := by
    intro rs
    induction rs with
    | nil => intro xs h; simp at h; subst h; exact ⟨[], rfl, rfl, fun i hi => by simp at hi⟩
    | cons r rs ih =>
      intro xs h
      rw [List.mapM_cons] at h
      cases hr : resultA P st r with
      | none => simp [hr] at h
      | some y =>
        cases hrs : rs.mapM (resultA P st) with
        | none => simp [hr, hrs] at h
        | some ys =>
          simp [hr, hrs] at h; subst h
          obtain ⟨v, hv, rv⟩ := result_sound hR hr
          obtain ⟨vs, h1, h2, h3⟩ := ih ys hrs
          refine ⟨v :: vs, ?_, by simp [h2], ?_⟩
          · simp only [List.mapM_cons, Sem.run_bind, hv, Result.andThen_ok, h1, Sem.run_pure]
          · intro i hi
            cases i with
            | zero => exact rv
            | succ i =>
              simp only [List.length_cons] at hi
              have := h3 i (by omega)
              simpa [List.getD_eq_getElem?_getD] using this
  have hrun : ∀ vs : List Value, (fn.results.toList.mapM (resSem a.tmps)).run P w = .ok vs w → (results fn a.tmps).run P w = .ok (if h : vs.toArray.size = 1 then vs.toArray[0] else .tuple vs.toArray) w := by
    intro vs hvs
    have hres : results fn a.tmps = (do let vs ← fn.results.mapM (resSem a.tmps); pure (if h : vs.size = 1 then vs[0] else .tuple vs)) := rfl
    rw [hres, Array.mapM_eq_mapM_toList]
    simp only [Sem.run_bind, Sem.run_map, hvs, Result.andThen_ok, Sem.run_pure]
  unfold resultsA at h
  split at h
  · rename_i rs r heq
    have hm : fn.results.toList.mapM (resultA P st) = some [x] := by rw [heq]; simp [h]
    obtain ⟨vs, h1, h2, h3⟩ := key _ _ hm
    simp only [List.length_cons, List.length_nil] at h2
    have hr := hrun vs h1
    obtain ⟨v, rfl⟩ : ∃ v, vs = [v] := by
      cases vs with
      | nil => cases h2
      | cons v r => cases r with
        | nil => exact ⟨v, rfl⟩
        | cons _ _ => simp at h2
    exact ⟨v, hr, h3 0 (by simp)⟩
  · rename_i rs hne
    cases hm : fn.results.toList.mapM (resultA P st) with
    | none => rw [hm] at h; cases h
    | some xs =>
      rw [hm] at h; simp only [Option.map_some, Option.some.injEq] at h; subst h
      obtain ⟨vs, h1, h2, h3⟩ := key _ _ hm
      have hr := hrun vs h1
      have hl : vs.length ≠ 1 := by
        intro e
        rw [e] at h2
        have : ∀ (rs : List ResultVar) (xs : List AV), rs.mapM (resultA P st) = some xs → rs.length = xs.length := by
          intro rs
          induction rs with
          | nil => intro xs h; simp at h; subst h; rfl
          | cons r rs ih =>
            intro xs h
            rw [List.mapM_cons] at h
            cases hr : resultA P st r with
            | none => simp [hr] at h
            | some y =>
              cases hrs : rs.mapM (resultA P st) with
              | none => simp [hr, hrs] at h
              | some ys => simp [hr, hrs] at h; subst h; simp [ih ys hrs]
        have hlen := this _ _ hm
        rw [← h2] at hlen
        obtain ⟨q, hq⟩ := List.length_eq_one_iff.1 hlen
        exact hne q hq
      have hs : ¬ (vs.toArray.size = 1) := by simpa using hl
      rw [dif_neg hs] at hr
      refine ⟨_, hr, .tup _ _ (by simpa using h2) ?_⟩
      intro i hi
      have := h3 i hi
      simpa [List.getD_eq_getElem?_getD, Array.getD_eq_getD_getElem?] using this

/-- What is taken on trust of the calls that go by a law of their own: that it is one. -/
def ShortSound (P : Program) (K : Know) : Prop := ∀ f g, K.short f = some g → CallSound P fun f' args H own => if f' = f then g args H own else none

theorem body_step {K : Know} (hP : POk P) (n : Nat) (hex : CodeSound P (exec P K n)) : CallSound P (bodyA (exec P K n) P K) := by
  intro f args H own out h G w vals g hH ho har
  unfold bodyA at h
  split at h
  case h_2 => cases h
  rename_i fn hfn
  split at h
  case h_2 => cases h
  rename_i c hc
  split at h
  case isFalse => cases h
  rename_i hle
  have hok := hP.code f fn c hfn hc
  have hdone : ∀ e st1, exec P K n (K.vars f) fn.ntmps c ⟨zipArgs 0 args, H, own.filter Loc.isCell⟩ = some (e, st1) → (e = .ret ∨ e = .normal) → (resultsA P st1 fn.results.toList).map (fun x => (x, st1.H, st1.own.filter Loc.isCell)) = some out →
      Calls P f vals w fun e w' => ∃ v G', e = .returned v ∧ CallDone P G w out v w' G' := by
    intro e st1 hst he hres
    cases hx : resultsA P st1 fn.results.toList with
    | none => rw [hx] at hres; cases hres
    | some x =>
      rw [hx] at hres; simp only [Option.map_some, Option.some.injEq] at hres; subst hres
      refine calls_of_wp hfn hc ?_
      have hR0 : Rel P G fn.ntmps ⟨zipArgs 0 args, H, own.filter Loc.isCell⟩ { tmps := vals ++ Array.replicate (fn.ntmps - vals.size) undef, defers := [] } w := by
        refine ⟨g, hH, ⟨?_, ?_, ?_⟩, ?_, ?_, rfl⟩
        · intro s hs; have := (List.mem_filter.1 hs).2; cases this
        · intro id off b k cs hm; exact ho.cell id off b k cs (List.mem_filter.1 hm).1
        · intro id off hm; exact ho.dom id off (List.mem_filter.1 hm).1
        · intro s
          show Rep P (G.mem w) (look (zipArgs 0 args) s) _
          rw [look_zip, if_pos (Nat.zero_le _), Nat.sub_zero]
          by_cases hs : s < args.length
          · have := har.2 s hs
            rw [Array.getD_eq_getD_getElem?] at this ⊢
            rw [Array.getElem?_append_left (by rw [har.1]; exact hs)]
            exact this
          · rw [List.getD_eq_getElem?_getD, List.getElem?_eq_none (by omega)]
            exact .undef _
        · simp only [Array.size_append, Array.size_replicate, har.1]; omega
      refine hex _ _ _ _ _ _ hst hok G _ w hR0 _ ?_
      intro a' w' G' hR' hE
      obtain ⟨v, hv, rv⟩ := results_sound hR' hx
      have hpost : ∃ v', (results fn a'.tmps).run P w' = .ok v' w' ∧ ∃ v G'', Ending.returned v' = .returned v ∧ CallDone P G w (x, st1.H, st1.own.filter Loc.isCell) v w' G'' :=
        ⟨v, hv, v, G', rfl, ⟨hE, hR'.ok, hR'.heap, rv, ⟨fun id off b k cs hm => hR'.own.cell id off b k cs (List.mem_filter.1 hm).1, fun id off hm => hR'.own.dom id off (List.mem_filter.1 hm).1⟩⟩⟩
      rcases he with rfl | rfl
      · exact ⟨hR'.defers, hpost⟩
      · exact ⟨hR'.defers, hpost⟩
  split at h
  · rename_i st1 hst; exact hdone _ _ hst (.inl rfl) h
  · rename_i st1 hst; exact hdone _ _ hst (.inr rfl) h
  · cases h

theorem call_step {K : Know} (hP : POk P) (hS : ShortSound P K) (n : Nat) (hex : CodeSound P (exec P K n)) : CallSound P (callN P K (n + 1)) := by
  intro f args H own out h G w vals g hH ho har
  simp only [callN] at h
  split at h
  · rename_i q hq
    exact hS f q hq f args H own out (by show (if f = f then _ else _) = _; rw [if_pos rfl]; exact h) G w vals g hH ho har
  · unfold fzOut at h
    cases hz : K.fz f with
    | false => rw [hz] at h; exact body_step hP n hex f args H own out h G w vals g hH ho har
    | true =>
      rw [hz] at h
      simp only [cond_true] at h
      split at h
      case h_2 => cases h
      rename_i x H1 own1 hb
      injection h with h; subst h
      refine (body_step hP n hex f args H own _ hb G w vals g hH ho har).mono ?_
      rintro e w' ⟨v, G', rfl, hd⟩
      obtain ⟨G2, h2⟩ := fz_done hd
      exact ⟨v, G2, rfl, h2⟩

/-- ALL OF IT: what the machine says of a call, Go's program does. -/
theorem machine_sound {K : Know} (hP : POk P) (hS : ShortSound P K) : ∀ n, CallSound P (callN P K n) ∧ CodeSound P (exec P K n) := by
  intro n
  induction n using Nat.strongRecOn with
  | _ n ih =>
    cases n with
    | zero => exact ⟨fun f args H own out h => by simp [callN] at h, fun vars nt c st e st' h => by simp [exec] at h⟩
    | succ n =>
      have hn := ih n (Nat.lt_succ_self n)
      exact ⟨call_step hP hS n hn.2, code_step hP n hn.1 fun m hm => (ih m hm).2⟩

end
end Go.Proofs.Ytnajopkaepjncaa.Am

/- The abstract machine is right, sixteenth part: what an operation reads of slots, of the heap and of the ends. -/
namespace Go.Proofs.Ytnajopkaepjncaa.Am
set_option linter.unusedVariables false
set_option linter.unusedSimpArgs false
open Go.RowKit

section
variable {P : Program} {call : CallA} {ops : List Oper}

theorem evalO_env {env env' : List (Nat × AV)} {x : Operand} (h : ∀ s, x = .tmp s → look env s = look env' s) : evalO env x = evalO env' x := by
  cases x <;> simp only [evalO]
  rw [h _ rfl]
theorem evalL_env {env env' : List (Nat × AV)} : ∀ l : List Operand, (∀ x ∈ l, evalO env x = evalO env' x) → evalL env l = evalL env' l
  | [], _ => rfl
  | x :: r, h => by simp only [evalL]; rw [h x (by simp), evalL_env r fun y hy => h y (by simp [hy])]
theorem evalParts_env {env env' : List (Nat × AV)} : ∀ l : List (Nat × Operand), (∀ x ∈ l, evalO env x.2 = evalO env' x.2) → evalParts env l = evalParts env' l
  | [], _ => rfl
  | (i, x) :: r, h => by simp only [evalParts]; rw [h (i, x) (by simp), evalParts_env r fun y hy => h y (by simp [hy])]
theorem optA_env {env env' : List (Nat × AV)} (x : Option Operand) (h : ∀ y, x = some y → evalO env y = evalO env' y) : optA env x = optA env' x := by
  cases x with
  | none => rfl
  | some y => simp only [optA]; rw [h y rfl]

theorem core_env {env env' : List (Nat × AV)} {H : List (Option Blk)} {own : List Loc} {o : Oper} (h : ∀ s ∈ opSlots o, look env s = look env' s) : core call P ops o env H own = core call P ops o env' H own := by
  have hs : ∀ s, .tmp s ∈ o.op.operands.toList → look env s = look env' s := by
    intro s hm
    exact h s (by unfold opSlots; exact List.mem_filterMap.2 ⟨_, hm, rfl⟩)
  have hx : ∀ x ∈ o.op.operands.toList, evalO env x = evalO env' x := fun x hm => evalO_env fun s e => hs s (e ▸ hm)
  clear h
  obtain ⟨dst, op, ty, pos, after, guard⟩ := o
  simp only at hs hx
  cases op
  case move x =>
    cases x with
    | tmp s => simp only [core]; rw [hs s (by simp [Op.operands])]
    | _ => rfl
  case load t a => simp only [core]; rw [hx a (by simp [Op.operands])]
  case alloc e => rfl
  case box e x => simp only [core]; rw [hx x (by simp [Op.operands])]
  case store t a x => simp only [core]; rw [hx a (by simp [Op.operands]), hx x (by simp [Op.operands])]
  case assign x => simp only [core]; rw [hx x (by simp [Op.operands])]
  case buildSlice t len parts => simp only [core]; rw [evalParts_env parts.toList fun q hq => hx q.2 (by simp only [Op.operands, List.mem_map]; exact ⟨q, hq, rfl⟩)]
  case makeSlice t l c => simp only [core]; rw [hx l (by simp [Op.operands]), hx c (by simp [Op.operands])]
  case convert s d x => simp only [core]; rw [hx x (by simp [Op.operands])]
  case pick c a b => simp only [core, pureOp]; rw [hx c (by simp [Op.operands]), hx a (by simp [Op.operands]), hx b (by simp [Op.operands])]
  case build t parts => simp only [core, pureOp]; rw [evalParts_env parts.toList fun q hq => hx q.2 (by simp only [Op.operands, List.mem_map]; exact ⟨q, hq, rfl⟩)]
  case nilCheck x => simp only [core, pureOp]; rw [hx x (by simp [Op.operands])]
  case binOp op t x y ty => simp only [core, pureOp]; rw [hx x (by simp [Op.operands]), hx y (by simp [Op.operands])]
  case unOp op t x => simp only [core, pureOp]; rw [hx x (by simp [Op.operands])]
  case makeInterface t x => simp only [core, pureOp]; rw [hx x (by simp [Op.operands])]
  case makeFunc f first captured =>
    have : evalL env captured.toList = evalL env' captured.toList := evalL_env _ fun q hq => hx q (by simp [Op.operands]; exact .inr (by simpa using hq))
    cases f <;> simp only [core, pureOp]
    rw [this]
  case slice t x l hh m => simp only [core, pureOp]; rw [hx x (by simp [Op.operands]), optA_env l fun y e => hx y (by simp [Op.operands, e]), optA_env hh fun y e => hx y (by simp [Op.operands, e]), optA_env m fun y e => hx y (by simp [Op.operands, e])]
  case fieldAddr s x f => simp only [core, pureOp]; rw [hx x (by simp [Op.operands])]
  case field t x f => simp only [core, pureOp]; rw [hx x (by simp [Op.operands])]
  case indexAddr t x i => simp only [core, pureOp]; rw [hx x (by simp [Op.operands]), hx i (by simp [Op.operands])]
  case index t x i => simp only [core, pureOp]; rw [hx x (by simp [Op.operands]), hx i (by simp [Op.operands])]
  case extract t i => simp only [core, pureOp]; rw [hx t (by simp [Op.operands])]
  case call c =>
    obtain ⟨callee, args, at_⟩ := c
    simp only [Op.operands, Call.operands] at hs hx
    have hargs : ∀ x ∈ args.toList, evalO env x = evalO env' x := fun x hm => hx x (by simp; exact .inr (by simpa using hm))
    cases callee with
    | value f => simp only [core]; rw [hx f (by simp), evalL_env _ hargs]
    | invoke r name => simp only [core]; rw [hx r (by simp), evalL_env _ hargs]
    | builtin b =>
      cases b
      case append =>
        simp only [core]
        split
        · rename_i s x ts tx e1 e2
          rw [e1] at hargs
          unfold appendA
          rw [hargs s (by simp), hargs x (by simp)]
        · rfl
      case len =>
        simp only [core, pureOp]
        split
        · rename_i x t e1 e2
          rw [e1] at hargs
          rw [hargs x (by simp)]
        · rfl
      all_goals rfl
  case typeAssert x a b c => simp only [core, pureOp]; rw [hx x (by simp [Op.operands])]
  all_goals rfl

end
end Go.Proofs.Ytnajopkaepjncaa.Am

/- The abstract machine is right, seventeenth part: operations that ask neither for the heap nor for the ends. -/
namespace Go.Proofs.Ytnajopkaepjncaa.Am
set_option linter.unusedVariables false
set_option linter.unusedSimpArgs false
open Go.RowKit

section
variable {P : Program} {call : CallA} {ops : List Oper}

theorem plain_some {H : List (Option Blk)} {own : List Loc} {x : Option AV} {r : Res} (h : plainRes H own x = some r) : ∃ v, x = some v ∧ r = ⟨v, H, own, false⟩ := by
  cases x with
  | none => cases h
  | some v => injection h with h; exact ⟨v, rfl, h.symm⟩

/-- It leaves the ends, and does not ask for them. -/
theorem core_own {env : List (Nat × AV)} {H : List (Option Blk)} {own : List Loc} {o : Oper} {r : Res} (he : ends ops o = false) (h : core call P ops o env H own = some r) :
    r.own = own ∧ ∀ own', core call P ops o env H own' = some ⟨r.val, r.H, own', r.gives⟩ := by
  have fin : ∀ x : Option AV, core call P ops o env H own = plainRes H own x → (∀ own', core call P ops o env H own' = plainRes H own' x) → r.own = own ∧ ∀ own', core call P ops o env H own' = some ⟨r.val, r.H, own', r.gives⟩ := by
    intro x h1 h2
    obtain ⟨v, rfl, rfl⟩ := plain_some (h1.symm.trans h)
    exact ⟨rfl, fun own' => h2 own'⟩
  obtain ⟨dst, op, ty, pos, after, guard⟩ := o
  cases op
  case move x =>
    cases x with
    | tmp s =>
      simp only [ends] at he
      simp only [core, he, Bool.and_false, cond_false] at h ⊢
      injection h with h; subst h
      exact ⟨rfl, fun _ => rfl⟩
    | const v => exact fin _ rfl fun _ => rfl
    | func v => exact fin _ rfl fun _ => rfl
    | global v => exact fin _ rfl fun _ => rfl
  case load t a =>
    simp only [ends] at he
    simp only [core, he, Bool.and_false, Bool.false_and, cond_false] at h ⊢
    cases ha : evalO env a with
    | none => rw [ha] at h; cases h
    | some p =>
      rw [ha] at h
      simp only at h ⊢
      cases hl : loadA P H t p with
      | none => rw [hl] at h; cases h
      | some x =>
        rw [hl] at h
        simp only at h ⊢
        cases p <;> (simp only at h ⊢; injection h with h; subst h; exact ⟨rfl, fun _ => rfl⟩)
  case alloc e =>
    simp only [core] at h ⊢
    cases hz : zeroT P e with
    | none => rw [hz] at h; cases h
    | some z => rw [hz] at h; injection h with h; subst h; exact ⟨rfl, fun _ => rfl⟩
  case box e x =>
    simp only [core] at h ⊢
    cases hz : evalO env x with
    | none => rw [hz] at h; cases h
    | some z =>
      rw [hz] at h
      simp only at h ⊢
      split at h
      · injection h with h; subst h; exact ⟨rfl, fun _ => by split <;> first | rfl | contradiction⟩
      · cases h
  case store t a x => cases he
  case assign x => cases he
  case buildSlice t len parts =>
    simp only [core] at h ⊢
    split at h
    · rename_i e ps h1 h2
      split at h
      · rename_i sz z h3 h4
        split at h
        · rename_i hc
          split at h
          · rename_i cs h5
            split at h
            · rename_i xs h6
              injection h with h; subst h
              exact ⟨rfl, fun _ => by simp only [h1, h2, h3, h4, if_pos hc, h5, h6]⟩
            · cases h
          · cases h
        · cases h
      · cases h
    · cases h
  case makeSlice t l c =>
    simp only [core] at h ⊢
    split at h
    · rename_i e n c h1 h2 h3
      split at h
      · rename_i n' c' i z h4 h5 h6 h7
        split at h
        · rename_i hc
          split at h
          · rename_i x h8
            injection h with h; subst h
            exact ⟨rfl, fun _ => by simp only [h1, h2, h3, h4, h5, h6, h7, if_pos hc, h8]⟩
          · cases h
        · cases h
      · cases h
    · cases h
  case convert s d x =>
    simp only [core] at h ⊢
    split at h
    · rename_i e q h1 h2 h3
      split at h
      · rename_i h4 h5
        injection h with h; subst h
        exact ⟨rfl, fun _ => by simp only [h4, h5]⟩
      · cases h
    · rename_i e e' xs sp h1 h2 h3
      split at h
      · rename_i h4
        split at h
        · rename_i h5
          obtain ⟨v, hv, rfl⟩ := plain_some h
          exact ⟨rfl, fun _ => by simp only [h4, h5, if_true, hv]; rfl⟩
        · cases h
      · cases h
    · rename_i e h1 h2 h3
      split at h
      · rename_i h4
        injection h with h; subst h
        exact ⟨rfl, fun _ => by simp only [h4]⟩
      · cases h
    · rename_i a h1 n1 n2 n3
      obtain ⟨v, hv, rfl⟩ := plain_some h
      refine ⟨rfl, fun own' => ?_⟩
      rw [hv]; rfl
    · cases h
  case call c =>
    obtain ⟨callee, args, at_⟩ := c
    cases callee with
    | value f => cases he
    | invoke r name => cases he
    | builtin b =>
      cases b
      case append => cases he
      all_goals exact fin _ rfl fun _ => rfl
  all_goals exact fin _ rfl fun _ => rfl

/-- It leaves the heap, and asks at most for what a pointer points to. -/
theorem core_heap {env : List (Nat × AV)} {H : List (Option Blk)} {own : List Loc} {o : Oper} {r : Res} (hh : heapOp o = false) (ha : allocOp o = false) (h : core call P ops o env H own = some r) :
    r.H = H ∧ ∀ H', (∀ t a id off, o.op = .load t a → evalO env a = some (.ptr id off) → H'[id]? = H[id]?) → core call P ops o env H' own = some ⟨r.val, H', r.own, r.gives⟩ := by
  have fin : ∀ x : Option AV, core call P ops o env H own = plainRes H own x → (∀ H', core call P ops o env H' own = plainRes H' own x) → r.H = H ∧ ∀ H', (∀ t a id off, o.op = .load t a → evalO env a = some (.ptr id off) → H'[id]? = H[id]?) → core call P ops o env H' own = some ⟨r.val, H', r.own, r.gives⟩ := by
    intro x h1 h2
    obtain ⟨v, rfl, rfl⟩ := plain_some (h1.symm.trans h)
    exact ⟨rfl, fun H' _ => h2 H'⟩
  obtain ⟨dst, op, ty, pos, after, guard⟩ := o
  cases op
  case move x =>
    cases x with
    | tmp s =>
      simp only [core] at h ⊢
      injection h with h; subst h
      cases (owns own (.slot s) && appDst ops dst) <;> exact ⟨rfl, fun _ _ => rfl⟩
    | const v => exact fin _ rfl fun _ => rfl
    | func v => exact fin _ rfl fun _ => rfl
    | global v => exact fin _ rfl fun _ => rfl
  case load t a =>
    simp only [core] at h ⊢
    cases hp : evalO env a with
    | none => rw [hp] at h; cases h
    | some p =>
      rw [hp] at h
      simp only at h ⊢
      cases hl : loadA P H t p with
      | none => rw [hl] at h; cases h
      | some x =>
        rw [hl] at h
        have key : ∀ H' : List (Option Blk), (∀ (t_1 : TypeId) (a_1 : Operand) (id off : Nat), (Op.load t a = Op.load t_1 a_1) → evalO env a_1 = some (AV.ptr id off) → H'[id]? = H[id]?) → loadA P H' t p = some x := by
          intro H' hyp
          rw [← hl]
          unfold loadA
          split
          · cases p <;> simp only
            rename_i id off
            have := hyp t a id off rfl hp
            unfold readCells
            rw [this]
          · rfl
        simp only at h ⊢
        cases p with
        | ptr id off =>
          simp only at h ⊢
          refine ⟨?_, fun H' hyp => ?_⟩
          · injection h with h; subst h
            cases (owns own (.cell id off) && appDst ops dst && (sizeT P t == some 1) && (isAggT P t == some false)) <;> rfl
          · rw [key H' hyp]
            simp only
            injection h with h; subst h
            cases (owns own (.cell id off) && appDst ops dst && (sizeT P t == some 1) && (isAggT P t == some false)) <;> rfl
        | _ =>
          simp only at h ⊢
          injection h with h; subst h
          exact ⟨rfl, fun H' hyp => by rw [key H' hyp]⟩
  case alloc e => cases ha
  case box e x => cases ha
  case store t a x => cases hh
  case assign x =>
    simp only [core] at h ⊢
    cases hv : evalO env x with
    | none => rw [hv] at h; cases h
    | some v =>
      rw [hv] at h
      cases x with
      | tmp s =>
        simp only at h ⊢
        injection h with h; subst h
        cases owns own (.slot s) <;> exact ⟨rfl, fun _ _ => rfl⟩
      | _ =>
        simp only at h ⊢
        injection h with h; subst h
        exact ⟨rfl, fun _ _ => rfl⟩
  case buildSlice t len parts =>
    simp only [core] at h ⊢
    split at h
    · rename_i e ps h1 h2
      split at h
      · rename_i sz z h3 h4
        split at h
        · rename_i hc
          split at h
          · rename_i cs h5
            split at h
            · rename_i xs h6
              injection h with h; subst h
              exact ⟨rfl, fun H' _ => by simp only [h1, h2, h3, h4, if_pos hc, h5, h6]⟩
            · cases h
          · cases h
        · cases h
      · cases h
    · cases h
  case makeSlice t l c =>
    simp only [core] at h ⊢
    split at h
    · rename_i e n c h1 h2 h3
      split at h
      · rename_i n' c' i z h4 h5 h6 h7
        split at h
        · rename_i hc
          split at h
          · rename_i x h8
            injection h with h; subst h
            exact ⟨rfl, fun H' _ => by simp only [h1, h2, h3, h4, h5, h6, h7, if_pos hc, h8]⟩
          · cases h
        · cases h
      · cases h
    · cases h
  case convert s d x =>
    simp only [core] at h ⊢
    split at h
    · rename_i e q h1 h2 h3
      split at h
      · rename_i h4 h5
        injection h with h; subst h
        exact ⟨rfl, fun _ _ => by simp only [h4, h5]⟩
      · cases h
    · rename_i e e' xs sp h1 h2 h3
      split at h
      · rename_i h4
        split at h
        · rename_i h5
          obtain ⟨v, hv, rfl⟩ := plain_some h
          exact ⟨rfl, fun _ _ => by simp only [h4, h5, if_true, hv]; rfl⟩
        · cases h
      · cases h
    · rename_i e h1 h2 h3
      split at h
      · rename_i h4
        injection h with h; subst h
        exact ⟨rfl, fun _ _ => by simp only [h4]⟩
      · cases h
    · rename_i a h1 n1 n2 n3
      obtain ⟨v, hv, rfl⟩ := plain_some h
      refine ⟨rfl, fun H' _ => ?_⟩
      rw [hv]; rfl
    · cases h
  case call c =>
    obtain ⟨callee, args, at_⟩ := c
    cases callee with
    | value f => cases hh
    | invoke r name => cases hh
    | builtin b =>
      cases b
      case append =>
        simp only [core] at h ⊢
        split at h
        · rename_i s x ts tx h1 h2
          unfold appendA at h ⊢
          split at h
          · rename_i e a b h3 h4 h5
            split at h
            · rename_i ys i z h6 h7 h8
              split at h
              · split at h
                · rename_i hc
                  injection h with h; subst h
                  exact ⟨rfl, fun H' _ => by simp only [h3, h4, h5, h6, h7, h8, if_pos hc]⟩
                · cases h
              · split at h
                · split at h
                  · rename_i hc
                    injection h with h; subst h
                    exact ⟨rfl, fun H' _ => by simp only [h3, h4, h5, h6, h7, h8, if_pos hc]⟩
                  · cases h
                · cases h
              · cases h
            · cases h
          · cases h
        · cases h
      all_goals exact fin _ rfl fun _ => rfl
  all_goals exact fin _ rfl fun _ => rfl

/-- No slot becomes one's own but that which the value is put in. -/
theorem core_slots {env : List (Nat × AV)} {H : List (Option Blk)} {own : List Loc} {o : Oper} {r : Res} (h : core call P ops o env H own = some r) (s : Nat) (hs : Loc.slot s ∈ r.own) : Loc.slot s ∈ own := by
  cases he : ends ops o with
  | false => rw [(core_own he h).1] at hs; exact hs
  | true =>
    have hcallA : ∀ f args, callA call P H own f args = some r → Loc.slot s ∈ own := by
      intro f args hc
      unfold callA at hc
      cases hb : hasBody P f with
      | false => rw [hb] at hc; cases hc
      | true =>
        rw [hb] at hc
        simp only [cond_true] at hc
        split at hc
        · injection hc with hc; subst hc
          rcases List.mem_append.1 hs with h1 | h1
          · exact (List.mem_filter.1 h1).1
          · have := (List.mem_filter.1 h1).2; cases this
        · cases hc
    obtain ⟨dst, op, ty, pos, after, guard⟩ := o
    cases op
    case move x =>
      cases x with
      | tmp v =>
        simp only [core] at h
        injection h with h; subst h
        cases hb : (owns own (.slot v) && appDst ops dst) <;> rw [hb] at hs
        · exact hs
        · exact (mem_drop.1 hs).1
      | _ => cases he
    case load t a =>
      simp only [core] at h
      cases hp : evalO env a with
      | none => rw [hp] at h; cases h
      | some p =>
        rw [hp] at h
        simp only at h
        cases hl : loadA P H t p with
        | none => rw [hl] at h; cases h
        | some x =>
          rw [hl] at h
          simp only at h
          cases p with
          | ptr id off =>
            simp only at h
            injection h with h; subst h
            cases hb : (owns own (.cell id off) && appDst ops dst && (sizeT P t == some 1) && (isAggT P t == some false)) <;> rw [hb] at hs
            · exact hs
            · exact (mem_drop.1 hs).1
          | _ =>
            simp only at h
            injection h with h; subst h
            exact hs
    case assign x =>
      simp only [core] at h
      cases hv : evalO env x with
      | none => rw [hv] at h; cases h
      | some v =>
        rw [hv] at h
        cases x with
        | tmp s' =>
          simp only at h
          injection h with h; subst h
          cases hb : owns own (.slot s') <;> rw [hb] at hs
          · exact hs
          · exact (mem_drop.1 hs).1
        | _ =>
          simp only at h
          injection h with h; subst h
          exact hs
    case buildSlice t len parts =>
      simp only [core] at h
      split at h
      · split at h
        · split at h
          · split at h
            · split at h
              · injection h with h; subst h; exact hs
              · cases h
            · cases h
          · cases h
        · cases h
      · cases h
    case makeSlice t l c =>
      simp only [core] at h
      split at h
      · split at h
        · split at h
          · split at h
            · injection h with h; subst h; exact hs
            · cases h
          · cases h
        · cases h
      · cases h
    case store t a x =>
      simp only [core] at h
      split at h
      · split at h
        · injection h with h; subst h
          rename_i id off v _ _ _ _ _
          have hd : ∀ n, Loc.slot s ∈ dropCells own id off n → Loc.slot s ∈ own := fun n hm => (List.mem_filter.1 hm).1
          cases x with
          | tmp q =>
            simp only at hs
            cases hb : (owns own (.slot q) && v.isOne) <;> rw [hb] at hs
            · exact hd _ hs
            · simp only [cond_true] at hs
              rcases mem_give.1 hs with e | ⟨e, _⟩
              · cases e
              · exact hd _ (mem_drop.1 e).1
          | _ => exact hd _ hs
        · cases h
      · cases h
    case call c =>
      obtain ⟨callee, args, at_⟩ := c
      cases callee with
      | value f =>
        simp only [core] at h
        split at h
        · exact hcallA _ _ h
        · cases h
      | invoke rv name =>
        simp only [core] at h
        split at h
        · split at h
          · exact hcallA _ _ h
          · cases h
        · cases h
      | builtin b =>
        cases b
        case append =>
          simp only [core] at h
          split at h
          · unfold appendA at h
            split at h
            · split at h
              · split at h
                · split at h
                  · injection h with h; subst h; exact hs
                  · cases h
                · split at h
                  · split at h
                    · injection h with h; subst h; exact (mem_drop.1 hs).1
                    · cases h
                  · cases h
                · cases h
              · cases h
            · cases h
          · cases h
        all_goals cases he
    all_goals cases he

/-! ### ends that are as good as each other -/
def Like (S : Nat → Prop) (own own' : List Loc) : Prop := ∀ l, (∀ s, l = .slot s → ¬ S s) → (l ∈ own ↔ l ∈ own')
theorem like_owns {S : Nat → Prop} {own own' : List Loc} {l : Loc} (h : Like S own own') (hl : ∀ s, l = .slot s → ¬ S s) : owns own l = owns own' l := by
  rw [Bool.eq_iff_iff, owns_iff, owns_iff]; exact h l hl
theorem Like.drop {S : Nat → Prop} {own own' : List Loc} (h : Like S own own') (l : Loc) : Like S (Am.drop own l) (Am.drop own' l) := by
  intro m hm; rw [mem_drop, mem_drop, h m hm]
theorem Like.give {S : Nat → Prop} {own own' : List Loc} (h : Like S own own') (l : Loc) : Like S (Am.give own l) (Am.give own' l) := by
  intro m hm; rw [mem_give, mem_give, h m hm]
theorem Like.cells {S : Nat → Prop} {own own' : List Loc} (h : Like S own own') (id off n : Nat) : Like S (dropCells own id off n) (dropCells own' id off n) := by
  intro m hm; unfold dropCells; rw [List.mem_filter, List.mem_filter, h m hm]

/-- What 'core' answers with the one, it answers with the other. -/
theorem core_frame {S : Nat → Prop} {env : List (Nat × AV)} {H : List (Option Blk)} {own own' : List Loc} {o : Oper} {r : Res} (hS : ∀ s, S s → s ∉ opSlots o) (hl : Like S own own') (h : core call P ops o env H own = some r) :
    ∃ oo, core call P ops o env H own' = some ⟨r.val, r.H, oo, r.gives⟩ ∧ Like S r.own oo ∧ ∀ s, S s → (Loc.slot s ∈ r.own ↔ Loc.slot s ∈ own) ∧ (Loc.slot s ∈ oo ↔ Loc.slot s ∈ own') := by
  cases he : ends ops o with
  | false =>
    obtain ⟨h1, h2⟩ := core_own he h
    exact ⟨own', h2 own', h1 ▸ hl, fun s _ => ⟨by rw [h1], Iff.rfl⟩⟩
  | true =>
    have hcell : ∀ id off, ∀ s, Loc.cell id off = .slot s → ¬ S s := fun id off s e => by cases e
    have hdropS : ∀ (l : Loc) (oo : List Loc), (∀ s, l = .slot s → ¬ S s) → ∀ s, S s → (Loc.slot s ∈ drop oo l ↔ Loc.slot s ∈ oo) := by
      intro l oo hl s hs
      rw [mem_drop]
      exact ⟨fun h => h.1, fun h => ⟨h, fun e => hl s e.symm hs⟩⟩
    have hcellS : ∀ (oo : List Loc) id off n, ∀ s, S s → (Loc.slot s ∈ dropCells oo id off n ↔ Loc.slot s ∈ oo) := by
      intro oo id off n s hs
      unfold dropCells
      rw [List.mem_filter]
      exact ⟨fun h => h.1, fun h => ⟨h, rfl⟩⟩
    have hcallA : ∀ f args, callA call P H own f args = some r → ∃ oo, callA call P H own' f args = some ⟨r.val, r.H, oo, r.gives⟩ ∧ Like S r.own oo ∧ ∀ s, S s → (Loc.slot s ∈ r.own ↔ Loc.slot s ∈ own) ∧ (Loc.slot s ∈ oo ↔ Loc.slot s ∈ own') := by
      intro f args hc
      unfold callA at hc ⊢
      cases hb : hasBody P f with
      | false => rw [hb] at hc; cases hc
      | true =>
        rw [hb] at hc
        simp only [cond_true] at hc ⊢
        have hcan : canon (own.filter Loc.isCell) = canon (own'.filter Loc.isCell) := by
          refine canon_ext fun x => ?_
          rw [List.mem_filter, List.mem_filter]
          cases x with
          | slot s => simp [Loc.isCell]
          | cell id off => rw [hl _ (hcell id off)]
        rw [← hcan]
        split at hc
        · rename_i x H' own1 hcl
          injection hc with hc; subst hc
          refine ⟨_, rfl, ?_, ?_⟩
          · intro m hm
            simp only [List.mem_append, List.mem_filter, hl m hm]
          · intro s hs
            have key : ∀ oo : List Loc, (Loc.slot s ∈ oo.filter (fun l => !l.isCell) ++ own1.filter Loc.isCell ↔ Loc.slot s ∈ oo) := by
              intro oo
              rw [List.mem_append, List.mem_filter, List.mem_filter]
              simp [Loc.isCell]
            exact ⟨key own, key own'⟩
        · cases hc
    obtain ⟨dst, op, ty, pos, after, guard⟩ := o
    have hop : ∀ s, .tmp s ∈ op.operands.toList → ∀ q, Loc.slot s = .slot q → ¬ S q := by
      intro s hm q e hq
      injection e with e; subst e
      exact hS s hq (by unfold opSlots; exact List.mem_filterMap.2 ⟨_, hm, rfl⟩)
    cases op
    case move x =>
      cases x with
      | tmp v =>
        have hv := hop v (by simp [Op.operands])
        simp only [core] at h ⊢
        rw [← like_owns hl hv]
        injection h with h; subst h
        cases hb : (owns own (.slot v) && appDst ops dst)
        · exact ⟨_, rfl, hl, fun s _ => ⟨Iff.rfl, Iff.rfl⟩⟩
        · exact ⟨_, rfl, hl.drop _, fun s hs => ⟨hdropS _ _ hv s hs, hdropS _ _ hv s hs⟩⟩
      | _ => cases he
    case load t a =>
      simp only [core] at h ⊢
      cases hp : evalO env a with
      | none => rw [hp] at h; cases h
      | some p =>
        rw [hp] at h
        simp only at h ⊢
        cases hld : loadA P H t p with
        | none => rw [hld] at h; cases h
        | some x =>
          rw [hld] at h
          simp only at h ⊢
          cases p with
          | ptr id off =>
            simp only at h ⊢
            rw [← like_owns hl (hcell id off)]
            injection h with h; subst h
            cases hb : (owns own (.cell id off) && appDst ops dst && (sizeT P t == some 1) && (isAggT P t == some false))
            · exact ⟨_, rfl, hl, fun s _ => ⟨Iff.rfl, Iff.rfl⟩⟩
            · exact ⟨_, rfl, hl.drop _, fun s hs => ⟨hdropS _ _ (hcell id off) s hs, hdropS _ _ (hcell id off) s hs⟩⟩
          | _ =>
            simp only at h ⊢
            injection h with h; subst h
            exact ⟨_, rfl, hl, fun s _ => ⟨Iff.rfl, Iff.rfl⟩⟩
    case assign x =>
      simp only [core] at h ⊢
      cases hv : evalO env x with
      | none => rw [hv] at h; cases h
      | some v =>
        rw [hv] at h
        cases x with
        | tmp s' =>
          have hs' := hop s' (by simp [Op.operands])
          simp only at h ⊢
          rw [← like_owns hl hs']
          injection h with h; subst h
          cases hb : owns own (.slot s')
          · exact ⟨_, rfl, hl, fun s _ => ⟨Iff.rfl, Iff.rfl⟩⟩
          · exact ⟨_, rfl, hl.drop _, fun s hs => ⟨hdropS _ _ hs' s hs, hdropS _ _ hs' s hs⟩⟩
        | _ =>
          simp only at h ⊢
          injection h with h; subst h
          exact ⟨_, rfl, hl, fun s _ => ⟨Iff.rfl, Iff.rfl⟩⟩
    case store t a x =>
      simp only [core] at h ⊢
      split at h
      · rename_i id off v h1 h2
        split at h
        · rename_i H' h3
          injection h with h; subst h
          simp only [h3]
          cases x with
          | tmp q =>
            have hq := hop q (by simp [Op.operands])
            simp only
            rw [← like_owns hl hq]
            cases hb : (owns own (.slot q) && v.isOne)
            · exact ⟨_, rfl, hl.cells _ _ _, fun s hs => ⟨hcellS _ _ _ _ s hs, hcellS _ _ _ _ s hs⟩⟩
            · refine ⟨_, rfl, ((hl.cells _ _ _).drop _).give _, fun s hs => ?_⟩
              have key : ∀ oo : List Loc, (Loc.slot s ∈ give (drop (dropCells oo id off v.cells.length) (.slot q)) (.cell id off) ↔ Loc.slot s ∈ oo) := by
                intro oo
                rw [mem_give]
                constructor
                · rintro (e | ⟨e, _⟩)
                  · cases e
                  · exact (hcellS _ _ _ _ s hs).1 ((hdropS _ _ hq s hs).1 e)
                · intro e
                  exact .inr ⟨(hdropS _ _ hq s hs).2 ((hcellS _ _ _ _ s hs).2 e), by intro e; cases e⟩
              exact ⟨key own, key own'⟩
          | _ => exact ⟨_, rfl, hl.cells _ _ _, fun s hs => ⟨hcellS _ _ _ _ s hs, hcellS _ _ _ _ s hs⟩⟩
        · cases h
      · cases h
    case call c =>
      obtain ⟨callee, args, at_⟩ := c
      cases callee with
      | value f =>
        simp only [core] at h ⊢
        split at h
        · exact hcallA _ _ h
        · cases h
      | invoke rv name =>
        simp only [core] at h ⊢
        split at h
        · split at h
          · exact hcallA _ _ h
          · cases h
        · cases h
      | builtin b =>
        cases b
        case append =>
          simp only [core] at h ⊢
          split at h
          · rename_i s x ts tx ha hb
            have hs' : ∀ t, s = .tmp t → ∀ q, Loc.slot t = .slot q → ¬ S q := fun t e => hop t (by simp only [Op.operands, Call.operands, Array.toList_append, ha, e]; simp)
            unfold appendA at h ⊢
            split at h
            · rename_i e a b h3 h4 h5
              split at h
              · rename_i ys i z h6 h7 h8
                split at h
                · split at h
                  · rename_i hc
                    injection h with h; subst h
                    exact ⟨_, by simp only [h6, h7, h8, if_pos hc], hl, fun s _ => ⟨Iff.rfl, Iff.rfl⟩⟩
                  · cases h
                · split at h
                  · rename_i t
                    split at h
                    · rename_i hc
                      injection h with h; subst h
                      refine ⟨_, by simp only [h6, h7, h8]; rw [← like_owns hl (hs' t rfl)]; simp only [if_pos hc], hl.drop _, fun s hs => ⟨hdropS _ _ (hs' t rfl) s hs, hdropS _ _ (hs' t rfl) s hs⟩⟩
                    · cases h
                  · cases h
                · cases h
              · cases h
            · cases h
          · cases h
        all_goals cases he
    all_goals cases he

end
end Go.Proofs.Ytnajopkaepjncaa.Am

/- The abstract machine is right, eighteenth part: two operations that have nothing to do with each other change places. -/
namespace Go.Proofs.Ytnajopkaepjncaa.Am
set_option linter.unusedVariables false
set_option linter.unusedSimpArgs false
open Go.RowKit

section
variable {P : Program} {call : CallA} {ops : List Oper} {nt base : Nat} {lt : Bool}

def coreW (call : CallA) (P : Program) (pre : Option (Nat × Bool)) (ops : List Oper) (o : Oper) (env : List (Nat × AV)) (H : List (Option Blk)) (own : List Loc) : Option Res :=
  match wantedA ops env o with
  | some true => coreP call P pre ops o env H own
  | some false => some ⟨.tup [], H, own, false⟩
  | none => none
def putEnv (env : List (Nat × AV)) (dst : Option Nat) (v : AV) : List (Nat × AV) :=
  match dst with
  | none => env
  | some d => (d, v) :: env
def putOwn (own : List Loc) (gives : Bool) (dst : Option Nat) : List Loc :=
  match dst with
  | none => own
  | some d => cond gives (give own (.slot d)) (drop own (.slot d))

theorem put_iff {r : Res} {env : List (Nat × AV)} {dst : Option Nat} {st : St} : r.put nt env dst = some st ↔ (∀ d, dst = some d → d < nt) ∧ st = ⟨putEnv env dst r.val, r.H, putOwn r.own r.gives dst⟩ := by
  cases dst with
  | none => simp only [Res.put, putEnv, putOwn, Option.some.injEq]; exact ⟨fun h => ⟨fun d e => (by cases e), h.symm⟩, fun h => h.2.symm⟩
  | some d =>
    simp only [Res.put, putEnv, putOwn]
    constructor
    · intro h
      split at h
      · rename_i hl; injection h with h; exact ⟨fun q e => by injection e with e; omega, h.symm⟩
      · cases h
    · rintro ⟨h1, h2⟩
      rw [if_pos (h1 d rfl), h2]

theorem stepW_iff {pre : Option (Nat × Bool)} {o : Oper} {st st' : St} : stepW call P nt pre ops o st = some st' ↔ ∃ r, coreW call P pre ops o st.env st.H st.own = some r ∧ r.put nt st.env o.dst = some st' := by
  unfold stepW coreW
  cases hw : wantedA ops st.env o with
  | none => exact ⟨fun h => (by cases h), fun ⟨r, hr, h⟩ => (by cases hr)⟩
  | some b =>
    cases b with
    | false => exact ⟨fun h => ⟨_, rfl, h⟩, fun ⟨r, hr, h⟩ => by injection hr with hr; rw [← hr] at h; exact h⟩
    | true =>
      simp only
      unfold stepOp
      constructor
      · intro h
        split at h
        · rename_i r hr; exact ⟨r, hr, h⟩
        · cases h
      · intro h
        obtain ⟨r, hr, h⟩ := h
        rw [hr]; exact h

theorem wanted_env {env env' : List (Nat × AV)} {o : Oper} (h : ∀ s ∈ reads ops o, look env s = look env' s) : wantedA ops env o = wantedA ops env' o := by
  unfold wantedA
  split
  · rfl
  · rename_i j want hg
    split
    · rename_i d op ty pos after guard hj
      rw [h d (by unfold reads guardSlot; rw [hg]; simp only; rw [hj]; simp)]
    · rfl
theorem newAt_env {env env' : List (Nat × AV)} {H : List (Option Blk)} {own : List Loc} {o : Oper} {id : Nat} (h : ∀ s ∈ opSlots o, look env s = look env' s) : newAt P o env H own id = newAt P o env' H own id := by
  unfold newAt
  split
  · split
    · rfl
    · rename_i e x hx
      rw [evalO_env (env := env) (env' := env') fun s hs => h s (by unfold opSlots; exact List.mem_filterMap.2 ⟨x, by rw [hx]; simp [Op.operands], by rw [hs]⟩)]
    · rfl
  · rfl
theorem newSl_env {e : TypeId} {env env' : List (Nat × AV)} {H : List (Option Blk)} {own : List Loc} {o : Oper} (h : ∀ s ∈ opSlots o, look env s = look env' s) : newSl P e o.op env H own = newSl P e o.op env' H own := by
  have hx : ∀ x ∈ o.op.operands.toList, evalO env x = evalO env' x := fun x hm => evalO_env fun s e => h s (by unfold opSlots; exact List.mem_filterMap.2 ⟨x, hm, by rw [e]⟩)
  unfold newSl
  split
  · rename_i t l c e1
    rw [hx l (by rw [e1]; simp [Op.operands]), hx c (by rw [e1]; simp [Op.operands])]
  · rename_i args argTypes e1
    split
    · rename_i s x ts tx hargs htys
      have ea : args = #[s, x] := by apply Array.ext'; simpa using hargs
      rw [hx s (by rw [e1, ea]; simp [Op.operands, Call.operands]), hx x (by rw [e1, ea]; simp [Op.operands, Call.operands])]
    · rfl
  · rfl
theorem coreS_env {env env' : List (Nat × AV)} {H : List (Option Blk)} {own : List Loc} {o : Oper} (h : ∀ s ∈ opSlots o, look env s = look env' s) : coreS call P ops o env H own = coreS call P ops o env' H own := by
  unfold coreS
  split
  · exact newSl_env h
  · exact core_env h
theorem newSl_own {e : TypeId} {op : Op} {env : List (Nat × AV)} {H : List (Option Blk)} {own : List Loc} {r : Res} (h : newSl P e op env H own = some r) : r.own = own ∧ ∀ own', newSl P e op env H own' = some ⟨r.val, r.H, own', r.gives⟩ := by
  unfold newSl at *
  split at h
  · split at h
    · split at h
      · split at h
        · rename_i hc
          injection h with h; subst h
          exact ⟨rfl, fun own' => by simp only [if_pos hc]⟩
        · cases h
      · cases h
    · cases h
  · split at h
    · split at h
      · split at h
        · split at h
          · split at h
            · rename_i hc
              injection h with h; subst h
              exact ⟨rfl, fun own' => by simp only [if_pos hc]⟩
            · cases h
          · split at h
            · rename_i hb
              split at h
              · rename_i hc
                injection h with h; subst h
                exact ⟨rfl, fun own' => by simp only [hb, if_pos hc]⟩
              · cases h
            · cases h
          · cases h
        · cases h
      · cases h
    · cases h
  · cases h
theorem slElem_op {o : Oper} {e : TypeId} (h : slElem P o = some e) : slOp o = true := by
  unfold slElem at h
  unfold slOp
  split at h
  · rename_i t ht
    cases hm : mutT t o with
    | true => rfl
    | false => rw [hm] at h; cases h
  · cases h
theorem slOp_heap {o : Oper} (h : slOp o = true) : heapOp o = true := by
  unfold heapOp
  split <;> first | rfl | exact h
theorem coreS_core {o : Oper} (h : heapOp o = false) : slElem P o = none := by
  cases hs : slElem P o with
  | none => rfl
  | some e => rw [slOp_heap (slElem_op hs)] at h; cases h
theorem coreS_own {env : List (Nat × AV)} {H : List (Option Blk)} {own : List Loc} {o : Oper} {r : Res} (he : ends ops o = false) (h : coreS call P ops o env H own = some r) :
    r.own = own ∧ ∀ own', coreS call P ops o env H own' = some ⟨r.val, r.H, own', r.gives⟩ := by
  unfold coreS at *
  split at h
  · exact newSl_own h
  · exact core_own he h
theorem coreS_frame {S : Nat → Prop} {env : List (Nat × AV)} {H : List (Option Blk)} {own own' : List Loc} {o : Oper} {r : Res} (hS : ∀ s, S s → s ∉ opSlots o) (hl : Like S own own') (h : coreS call P ops o env H own = some r) :
    ∃ oo, coreS call P ops o env H own' = some ⟨r.val, r.H, oo, r.gives⟩ ∧ Like S r.own oo ∧ ∀ s, S s → (Loc.slot s ∈ r.own ↔ Loc.slot s ∈ own) ∧ (Loc.slot s ∈ oo ↔ Loc.slot s ∈ own') := by
  unfold coreS at *
  split at h
  · obtain ⟨h1, h2⟩ := newSl_own h
    exact ⟨own', h2 own', by rw [h1]; exact hl, fun s _ => ⟨by rw [h1], Iff.rfl⟩⟩
  · exact core_frame hS hl h
theorem coreP_env {pre : Option (Nat × Bool)} {env env' : List (Nat × AV)} {H : List (Option Blk)} {own : List Loc} {o : Oper} (h : ∀ s ∈ opSlots o, look env s = look env' s) : coreP call P pre ops o env H own = coreP call P pre ops o env' H own := by
  unfold coreP
  rw [coreS_env h]
  split
  · rfl
  · rename_i b lt
    have hl : lateOk b o env = lateOk b o env' := by
      have hx : ∀ x ∈ o.op.operands.toList, evalO env x = evalO env' x := fun x hm => evalO_env fun s e => h s (by unfold opSlots; exact List.mem_filterMap.2 ⟨x, hm, by rw [e]⟩)
      unfold lateOk
      split
      · rename_i t a e; rw [hx a (by rw [e]; simp [Op.operands])]
      · rename_i t a x e; rw [hx a (by rw [e]; simp [Op.operands])]
      · rfl
    rw [hl]
    congr 1
    split
    · split
      · exact newAt_env h
      · rfl
    · rfl
theorem coreW_env {pre : Option (Nat × Bool)} {env env' : List (Nat × AV)} {H : List (Option Blk)} {own : List Loc} {o : Oper} (h : ∀ s ∈ reads ops o, look env s = look env' s) : coreW call P pre ops o env H own = coreW call P pre ops o env' H own := by
  unfold coreW
  rw [wanted_env h, coreP_env fun s hs => h s (by unfold reads; exact List.mem_append_right _ hs)]
theorem newAt_some {env : List (Nat × AV)} {H : List (Option Blk)} {own : List Loc} {o : Oper} {id : Nat} {r : Res} (h : newAt P o env H own id = some r) :
    ∃ k, H[id]? = some none ∧ r = ⟨.ptr id 0, H.set id (some k), own, false⟩ ∧ ∀ H' own', H'[id]? = some none → newAt P o env H' own' id = some ⟨.ptr id 0, H'.set id (some k), own', false⟩ := by
  unfold newAt at h ⊢
  split at h
  case h_2 => cases h
  rename_i hh
  split at h
  · split at h
    · rename_i z hz
      injection h with h
      exact ⟨_, hh, h.symm, fun H' own' e => by rw [e]⟩
    · cases h
  · split at h
    · rename_i v hv
      split at h
      · rename_i hp
        injection h with h
        exact ⟨_, hh, h.symm, fun H' own' e => by rw [e]; simp only [if_pos hp]⟩
      · cases h
    · cases h
  · cases h
/-- With places kept: an operation that makes a block, or 'core'. -/
theorem coreP_cases {env : List (Nat × AV)} {H : List (Option Blk)} {own : List Loc} {o : Oper} {r : Res} (h : coreP call P (some (base, lt)) ops o env H own = some r) :
    (allocOp o = false ∧ coreS call P ops o env H own = some r ∧ (lt = true → lateOk base o env = true) ∧ ∀ H' own', coreP call P (some (base, lt)) ops o env H' own' = coreS call P ops o env H' own') ∨
    (allocOp o = true ∧ ∃ d k, o.dst = some d ∧ rank ops d = some k ∧ newAt P o env H own (base + k) = some r ∧ ∀ H' own', coreP call P (some (base, lt)) ops o env H' own' = newAt P o env H' own' (base + k)) := by
  unfold coreP at h ⊢
  cases ha : allocOp o with
  | false =>
    rw [ha] at h
    simp only [cond_false] at h ⊢
    cases hl : (lt && !(lateOk base o env)) with
    | true => rw [hl] at h; cases h
    | false =>
      rw [hl] at h
      refine .inl ⟨trivial, h, fun e => ?_, fun _ _ => rfl⟩
      rw [e] at hl
      simpa using hl
  | true =>
    rw [ha] at h
    simp only [cond_true] at h ⊢
    split at h
    · rename_i d hd
      split at h
      · rename_i k hk
        exact .inr ⟨trivial, d, k, hd, hk, h, fun _ _ => by simp only [hk]⟩
      · cases h
    · cases h
theorem coreW_own {env : List (Nat × AV)} {H : List (Option Blk)} {own : List Loc} {o : Oper} {r : Res} (he : ends ops o = false) (h : coreW call P (some (base, lt)) ops o env H own = some r) :
    r.own = own ∧ ∀ own', coreW call P (some (base, lt)) ops o env H own' = some ⟨r.val, r.H, own', r.gives⟩ := by
  unfold coreW at *
  split at h
  · rcases coreP_cases h with ⟨_, h1, hlate, h2⟩ | ⟨_, d, k, _, _, h1, h2⟩
    · obtain ⟨q1, q2⟩ := coreS_own he h1
      exact ⟨q1, fun own' => by simp only [h2]; exact q2 own'⟩
    · obtain ⟨b, q1, q2, q3⟩ := newAt_some h1
      subst q2
      exact ⟨rfl, fun own' => by simp only [h2]; exact q3 H own' q1⟩
  · injection h with h; subst h; exact ⟨rfl, fun _ => rfl⟩
  · cases h
theorem coreW_frame {S : Nat → Prop} {env : List (Nat × AV)} {H : List (Option Blk)} {own own' : List Loc} {o : Oper} {r : Res} (hS : ∀ s, S s → s ∉ reads ops o) (hl : Like S own own') (h : coreW call P (some (base, lt)) ops o env H own = some r) :
    ∃ oo, coreW call P (some (base, lt)) ops o env H own' = some ⟨r.val, r.H, oo, r.gives⟩ ∧ Like S r.own oo ∧ ∀ s, S s → (Loc.slot s ∈ r.own ↔ Loc.slot s ∈ own) ∧ (Loc.slot s ∈ oo ↔ Loc.slot s ∈ own') := by
  unfold coreW at *
  split at h
  · rcases coreP_cases h with ⟨_, h1, hlate, h2⟩ | ⟨_, d, k, _, _, h1, h2⟩
    · obtain ⟨oo, q1, q2, q3⟩ := coreS_frame (S := S) (fun s hs hm => hS s hs (by unfold reads; exact List.mem_append_right _ hm)) hl h1
      exact ⟨oo, by simp only [h2]; exact q1, q2, q3⟩
    · obtain ⟨b, q1, q2, q3⟩ := newAt_some h1
      subst q2
      exact ⟨own', by simp only [h2]; exact q3 H own' q1, hl, fun s _ => ⟨Iff.rfl, Iff.rfl⟩⟩
  · injection h with h; subst h; exact ⟨own', rfl, hl, fun s _ => ⟨Iff.rfl, Iff.rfl⟩⟩
  · cases h
theorem coreW_heap {env : List (Nat × AV)} {H : List (Option Blk)} {own : List Loc} {o : Oper} {r : Res} (hh : heapOp o = false) (ha : allocOp o = false) (h : coreW call P (some (base, lt)) ops o env H own = some r) :
    r.H = H ∧ ∀ H', (∀ t a id off, o.op = .load t a → evalO env a = some (.ptr id off) → (Live H id ∨ ∃ r', core call P ops o env H own = some r') → H'[id]? = H[id]?) → coreW call P (some (base, lt)) ops o env H' own = some ⟨r.val, H', r.own, r.gives⟩ := by
  unfold coreW at *
  split at h
  · rcases coreP_cases h with ⟨_, h1, hlate, h2⟩ | ⟨h1, _⟩
    · have hn := coreS_core (P := P) hh
      have hcs : ∀ H' own', coreS call P ops o env H' own' = core call P ops o env H' own' := fun H' own' => by unfold coreS; rw [hn]
      rw [hcs] at h1
      have h2 : ∀ H' own', coreP call P (some (base, lt)) ops o env H' own' = core call P ops o env H' own' := fun H' own' => (h2 H' own').trans (hcs H' own')
      obtain ⟨q1, q2⟩ := core_heap hh ha h1
      exact ⟨q1, fun H' hyp => by simp only [h2]; exact q2 H' fun t a id off e1 e2 => hyp t a id off e1 e2 (.inr ⟨r, h1⟩)⟩
    · rw [ha] at h1; cases h1
  · injection h with h; subst h; exact ⟨rfl, fun _ _ => rfl⟩
  · cases h
theorem coreW_alloc {env : List (Nat × AV)} {H : List (Option Blk)} {own : List Loc} {o : Oper} {r : Res} (ha : allocOp o = true) (h : coreW call P (some (base, lt)) ops o env H own = some r) :
    (∃ d q k, o.dst = some d ∧ rank ops d = some q ∧ H[base + q]? = some none ∧ r.H = H.set (base + q) (some k) ∧ ∀ H', H'[base + q]? = some none → coreW call P (some (base, lt)) ops o env H' own = some ⟨r.val, H'.set (base + q) (some k), r.own, r.gives⟩) ∨
    (r.H = H ∧ ∀ H', coreW call P (some (base, lt)) ops o env H' own = some ⟨r.val, H', r.own, r.gives⟩) := by
  unfold coreW at *
  split at h
  · rcases coreP_cases h with ⟨h1, _⟩ | ⟨_, d, k, e1, e2, h1, h2⟩
    · rw [ha] at h1; cases h1
    · obtain ⟨b, q1, q2, q3⟩ := newAt_some h1
      subst q2
      exact .inl ⟨d, k, b, e1, e2, q1, rfl, fun H' e => by simp only [h2]; exact q3 H' own e⟩
  · injection h with h; subst h; exact .inr ⟨rfl, fun _ => rfl⟩
  · cases h
theorem core_load_live {env : List (Nat × AV)} {H : List (Option Blk)} {own : List Loc} {o : Oper} {r : Res} {t : TypeId} {a : Operand} {id off : Nat} (e1 : o.op = .load t a) (e2 : evalO env a = some (.ptr id off)) (h : core call P ops o env H own = some r) : Live H id := by
  obtain ⟨dst, op, ty, pos, after, guard⟩ := o
  simp only at e1
  subst e1
  simp only [core, e2] at h
  cases hl : loadA P H t (.ptr id off) with
  | none => rw [hl] at h; cases h
  | some x =>
    unfold loadA at hl
    split at hl
    · simp only at hl
      split at hl
      · rename_i cs hr
        unfold readCells at hr
        split at hr
        · rename_i b hb
          exact ⟨b, hb⟩
        · cases hr
      · cases hl
    · cases hl
theorem rank_inj : ∀ (l : List Oper) {d d' k : Nat}, rank l d = some k → rank l d' = some k → d = d'
  | [], _, _, _, h, _ => by cases h
  | o :: r, d, d', k, h, h' => by
    simp only [rank] at h h'
    cases ha : allocOp o with
    | false => rw [ha] at h h'; exact rank_inj r h h'
    | true =>
      rw [ha] at h h'
      simp only [cond_true] at h h'
      cases h1 : o.dst == some d with
      | true =>
        rw [h1] at h
        injection h with h; subst h
        cases h2 : o.dst == some d' with
        | true =>
          rw [beq_iff_eq] at h1 h2
          rw [h1] at h2; injection h2
        | false =>
          rw [h2] at h'
          simp only [cond_false] at h'
          cases hr : rank r d' with
          | none => rw [hr] at h'; cases h'
          | some q => rw [hr] at h'; simp at h'
      | false =>
        rw [h1] at h
        simp only [cond_false] at h
        cases h2 : o.dst == some d' with
        | true =>
          rw [h2] at h'
          injection h' with h'; subst h'
          cases hr : rank r d with
          | none => rw [hr] at h; cases h
          | some q => rw [hr] at h; simp at h
        | false =>
          rw [h2] at h'
          simp only [cond_false] at h'
          cases hr : rank r d with
          | none => rw [hr] at h; cases h
          | some q =>
            rw [hr] at h
            cases hr' : rank r d' with
            | none => rw [hr'] at h'; cases h'
            | some q' =>
              rw [hr'] at h'
              simp only [Option.map_some, Option.some.injEq] at h h'
              exact rank_inj r hr (by rw [hr']; congr 1; omega)
theorem coreW_late {env : List (Nat × AV)} {H : List (Option Blk)} {own : List Loc} {o : Oper} {r : Res} (hw : wantedA ops env o = some true) (h : coreW call P (some (base, lt)) ops o env H own = some r) (hlt : lt = true) (ha : allocOp o = false) : lateOk base o env = true := by
  unfold coreW at h
  rw [hw] at h
  rcases coreP_cases h with ⟨_, h1, hlate, h2⟩ | ⟨h1, _⟩
  · exact hlate hlt
  · rw [ha] at h1; cases h1
/-- A store, of a block of the region's own. -/
theorem coreW_store {env : List (Nat × AV)} {H : List (Option Blk)} {own : List Loc} {o : Oper} {r : Res} (hs : isStore o = true) (hlt : lt = true) (h : coreW call P (some (base, lt)) ops o env H own = some r) :
    (∀ id, id < base → r.H[id]? = H[id]?) ∧ ∀ id, Live H id → Live r.H id := by
  unfold coreW at h
  split at h
  · rcases coreP_cases h with ⟨_, h1, hlate, h2⟩ | ⟨h1, _⟩
    · have hl := hlate hlt
      obtain ⟨dst, op, ty, pos, after, guard⟩ := o
      cases op with
      | store t a x =>
        have hn : slElem P { dst := dst, op := .store t a x, type := ty, pos := pos, after := after, guard := guard } = none := by unfold slElem slTy; rfl
        unfold coreS at h1
        rw [hn] at h1
        simp only [core] at h1
        split at h1
        · rename_i id off v e1 e2
          split at h1
          · rename_i H' hst
            injection h1 with h1; subst h1
            simp only [lateOk, e1] at hl
            have hge : base ≤ id := Nat.ble_eq.mp hl
            simp only
            unfold storeA at hst
            split at hst
            · split at hst
              · split at hst
                · rename_i p q id' off' n' e3 e4 oo b e5 e6
                  injection e3 with e3 e7; subst e3; subst e7
                  injection hst with hst; subst hst
                  exact ⟨fun j hj => by rw [List.getElem?_set_ne (by omega)], fun j hj => hj.set _ _⟩
                · cases hst
              · cases hst
            · cases hst
          · cases h1
        · cases h1
      | _ => cases hs
    · unfold isStore at hs
      unfold allocOp at h1
      split at hs
      · rename_i e; rw [e] at h1; cases h1
      · cases hs
  · injection h with h; subst h; exact ⟨fun _ _ => rfl, fun _ h => h⟩
  · cases h
/-- What lives goes on living where nothing is called or stored. -/
theorem live_step {env : List (Nat × AV)} {H : List (Option Blk)} {own : List Loc} {o : Oper} {r : Res} (hh : heapOp o = false) (h : coreW call P (some (base, lt)) ops o env H own = some r) {id : Nat} (hl : Live H id) : r.H[id]? = H[id]? := by
  cases ha : allocOp o with
  | false => rw [(coreW_heap hh ha h).1]
  | true =>
    rcases coreW_alloc ha h with ⟨d, q, k, _, _, e, e', _⟩ | ⟨e, _⟩
    · rw [e', List.getElem?_set_ne]
      rintro rfl
      obtain ⟨b, hb⟩ := hl
      rw [e] at hb; cases hb
    · rw [e]
theorem mem_putOwn {own : List Loc} {g : Bool} {dst : Option Nat} {l : Loc} : l ∈ putOwn own g dst ↔ (∃ s, dst = some s ∧ l = .slot s ∧ g = true) ∨ (l ∈ own ∧ ∀ s, dst = some s → l ≠ .slot s) := by
  cases dst with
  | none => simp [putOwn]
  | some d =>
    cases g with
    | true =>
      show l ∈ give own _ ↔ _
      rw [mem_give]
      constructor
      · rintro (h | ⟨h1, h2⟩)
        · exact .inl ⟨d, rfl, h, rfl⟩
        · exact .inr ⟨h1, fun s e => by injection e with e; subst e; exact h2⟩
      · rintro (⟨s, e, h, _⟩ | ⟨h1, h2⟩)
        · injection e with e; subst e; exact .inl h
        · exact .inr ⟨h1, h2 d rfl⟩
    | false =>
      show l ∈ drop own _ ↔ _
      rw [mem_drop]
      constructor
      · rintro ⟨h1, h2⟩
        exact .inr ⟨h1, fun s e => by injection e with e; subst e; exact h2⟩
      · rintro (⟨s, e, h, q⟩ | ⟨h1, h2⟩)
        · cases q
        · exact ⟨h1, h2 d rfl⟩
theorem look_putEnv {env : List (Nat × AV)} {dst : Option Nat} {v : AV} (s : Nat) : look (putEnv env dst v) s = if dst = some s then v else look env s := by
  cases dst with
  | none => simp [putEnv]
  | some d =>
    simp only [putEnv, look_cons]
    by_cases h : s = d
    · subst h; simp
    · rw [if_neg h, if_neg (by intro e; injection e with e; exact h e.symm)]

/-- Two operations that have nothing to do with each other. -/
structure Unord (ops : List Oper) (lt : Bool) (x i : Oper) : Prop where
  r1 : ∀ d, x.dst = some d → d ∉ reads ops i ∧ i.dst ≠ some d
  r2 : ∀ d, i.dst = some d → d ∉ reads ops x
  e : ends ops x = false ∨ ends ops i = false
  h1 : heapOp x = true → memOp i = false ∨ (lt = true ∧ isStore x = true ∧ isLoad i = true)
  h2 : heapOp i = true → memOp x = false ∨ (lt = true ∧ isStore i = true ∧ isLoad x = true)

structure EqSt (s t : St) : Prop where
  env : ∀ k, look s.env k = look t.env k
  H : s.H = t.H
  own : ∀ l, l ∈ s.own ↔ l ∈ t.own

theorem memOp_parts {o : Oper} (h : memOp o = false) : heapOp o = false ∧ allocOp o = false ∧ ∀ t a, o.op ≠ .load t a := by
  unfold memOp at h
  rw [Bool.or_eq_false_iff] at h
  refine ⟨h.1, ?_, ?_⟩
  · unfold allocOp
    split
    · rename_i e; rw [e] at h; exact absurd h.2 (by simp)
    · rename_i e; rw [e] at h; exact absurd h.2 (by simp)
    · rfl
  · intro t a e; rw [e] at h; exact absurd h.2 (by simp)
theorem alloc_mem {o : Oper} (h : allocOp o = true) : memOp o = true := by
  cases hm : memOp o with
  | true => rfl
  | false => rw [(memOp_parts hm).2.1] at h; cases h

theorem swap {x i : Oper} {st st1 st2 : St} (hx : stepW call P nt (some (base, lt)) ops x st = some st1) (hi : stepW call P nt (some (base, lt)) ops i st1 = some st2) (u : Unord ops lt x i)
    (hv : ∀ t a id off, i.op = .load t a → evalO st.env a = some (.ptr id off) → Live st.H id) :
    ∃ s1 s2, stepW call P nt (some (base, lt)) ops i st = some s1 ∧ stepW call P nt (some (base, lt)) ops x s1 = some s2 ∧ EqSt s2 st2 := by
  obtain ⟨rx, hcx, hpx⟩ := stepW_iff.1 hx
  obtain ⟨ri, hci, hpi⟩ := stepW_iff.1 hi
  obtain ⟨hnx, rfl⟩ := put_iff.1 hpx
  obtain ⟨hni, rfl⟩ := put_iff.1 hpi
  simp only at hci ⊢
  have henv : coreW call P (some (base, lt)) ops i st.env rx.H (putOwn rx.own rx.gives x.dst) = some ri := by
    rw [← hci]
    apply coreW_env
    intro s hs
    rw [look_putEnv]
    rw [if_neg]
    intro e
    exact (u.r1 s e).1 hs
  -- the heap
  have hH : ∃ Hi, coreW call P (some (base, lt)) ops i st.env st.H (putOwn rx.own rx.gives x.dst) = some ⟨ri.val, Hi, ri.own, ri.gives⟩ ∧ coreW call P (some (base, lt)) ops x st.env Hi st.own = some ⟨rx.val, ri.H, rx.own, rx.gives⟩ := by
    have load_low : ∀ {o : Oper} {H : List (Option Blk)} {own : List Loc} {r : Res} {t : TypeId} {a : Operand} {id off : Nat}, wantedA ops st.env o = some true → coreW call P (some (base, lt)) ops o st.env H own = some r → lt = true → o.op = .load t a → evalO st.env a = some (.ptr id off) → id < base := by
      intro o H own r t a id off hw hc hlt e1 e2
      have := coreW_late hw hc hlt (by unfold allocOp; rw [e1])
      unfold lateOk at this
      rw [e1] at this
      simp only [e2] at this
      exact Nat.blt_eq.mp this
    have load_parts : ∀ {o : Oper}, isLoad o = true → heapOp o = false ∧ allocOp o = false := by
      intro o hl
      unfold isLoad at hl
      split at hl
      · rename_i e
        refine ⟨?_, ?_⟩
        · unfold heapOp slOp slTy; rw [e]
        · unfold allocOp; rw [e]
      · cases hl
    by_cases hA : heapOp x = false ∧ allocOp x = false
    · obtain ⟨q1, q2⟩ := coreW_heap hA.1 hA.2 hcx
      rw [q1] at henv
      cases hwx : wantedA ops st.env x with
      | none => unfold coreW at hcx; rw [hwx] at hcx; cases hcx
      | some bx =>
      cases bx with
      | false =>
        have hcx' := hcx
        unfold coreW at hcx'
        rw [hwx] at hcx'
        injection hcx' with hcx'
        subst hcx'
        exact ⟨ri.H, henv, by unfold coreW; rw [hwx]⟩
      | true =>
      refine ⟨ri.H, henv, q2 _ ?_⟩
      intro t a id off e1 e2 hor
      cases hhi : heapOp i with
      | true =>
        rcases u.h2 hhi with h | ⟨h1, h2, _⟩
        · exact absurd e1 ((memOp_parts h).2.2 t a)
        · exact (coreW_store h2 h1 henv).1 id (load_low hwx hcx h1 e1 e2)
      | false =>
        have hlive : Live st.H id := by
          rcases hor with h | ⟨r', h⟩
          · exact h
          · exact core_load_live e1 e2 h
        exact live_step hhi henv hlive
    · by_cases hB : heapOp i = false ∧ allocOp i = false
      · obtain ⟨q1, q2⟩ := coreW_heap hB.1 hB.2 henv
        cases hwi : wantedA ops st.env i with
        | none => unfold coreW at henv; rw [hwi] at henv; cases henv
        | some bi =>
        cases bi with
        | false =>
          have henv' := henv
          unfold coreW at henv'
          rw [hwi] at henv'
          injection henv' with henv'
          subst henv'
          exact ⟨st.H, by unfold coreW; rw [hwi], hcx⟩
        | true =>
        refine ⟨st.H, q2 _ ?_, ?_⟩
        · intro t a id off e1 e2 _
          have hlive := hv t a id off e1 e2
          cases hhx : heapOp x with
          | true =>
            rcases u.h1 hhx with h | ⟨h1, h2, _⟩
            · exact absurd e1 ((memOp_parts h).2.2 t a)
            · exact ((coreW_store h2 h1 hcx).1 id (load_low hwi henv h1 e1 e2)).symm
          | false => exact (live_step hhx hcx hlive).symm
        · rw [q1]; exact hcx
      · -- both make a block
        have hax : allocOp x = true := by
          cases hhx : heapOp x with
          | true =>
            rcases u.h1 hhx with h | ⟨_, _, h⟩
            · exact absurd ⟨(memOp_parts h).1, (memOp_parts h).2.1⟩ hB
            · exact absurd (load_parts h) hB
          | false =>
            cases h : allocOp x with
            | true => rfl
            | false => exact absurd ⟨hhx, h⟩ hA
        have hhi : heapOp i = false := by
          cases hhi : heapOp i with
          | false => rfl
          | true =>
            rcases u.h2 hhi with h | ⟨_, _, h⟩
            · rw [alloc_mem hax] at h; cases h
            · have := (load_parts h).2; rw [hax] at this; cases this
        have hai : allocOp i = true := by
          cases h : allocOp i with
          | true => rfl
          | false => exact absurd ⟨hhi, h⟩ hB
        rcases coreW_alloc hax hcx with ⟨d, q, k, x1, x2, x3, x4, x5⟩ | ⟨x1, x2⟩
        · rcases coreW_alloc hai henv with ⟨d', q', k', y1, y2, y3, y4, y5⟩ | ⟨y1, y2⟩
          · have hne : base + q ≠ base + q' := by
              intro e
              have : q = q' := by omega
              subst this
              have := rank_inj ops x2 y2
              subst this
              exact (u.r1 d x1).2 y1
            rw [x4, List.getElem?_set_ne hne] at y3
            refine ⟨st.H.set (base + q') (some k'), y5 _ y3, ?_⟩
            have := x5 (st.H.set (base + q') (some k')) (by rw [List.getElem?_set_ne hne.symm]; exact x3)
            rw [this, y4, x4, List.set_comm _ _ hne]
          · refine ⟨st.H, y2 _, ?_⟩
            rw [y1]; exact hcx
        · rw [x1] at henv
          refine ⟨ri.H, henv, x2 _⟩
  obtain ⟨Hi, f1, f2⟩ := hH
  -- the ends
  have hne : ∀ d, x.dst = some d → i.dst ≠ some d := fun d e => (u.r1 d e).2
  have hO : ∃ oi, coreW call P (some (base, lt)) ops i st.env st.H st.own = some ⟨ri.val, Hi, oi, ri.gives⟩ ∧ ∃ ox, coreW call P (some (base, lt)) ops x st.env Hi (putOwn oi ri.gives i.dst) = some ⟨rx.val, ri.H, ox, rx.gives⟩ ∧ ∀ l, l ∈ putOwn ox rx.gives x.dst ↔ l ∈ putOwn ri.own ri.gives i.dst := by
    cases hex : ends ops x with
    | false =>
      obtain ⟨q1, q2⟩ := coreW_own hex f2
      obtain ⟨o1, _⟩ := coreW_own hex hcx
      have hlike : Like (fun s => x.dst = some s) (putOwn rx.own rx.gives x.dst) st.own := by
        intro l hl
        rw [mem_putOwn, o1]
        constructor
        · rintro (⟨s, e1, e2, _⟩ | ⟨e, _⟩)
          · exact absurd e1 (hl s e2)
          · exact e
        · intro h
          exact .inr ⟨h, fun s e1 e2 => hl s e2 e1⟩
      obtain ⟨oi, g1, g2, g3⟩ := coreW_frame (S := fun s => x.dst = some s) (fun s hs => (u.r1 s hs).1) hlike f1
      simp only at g1 g2 g3
      refine ⟨oi, g1, putOwn oi ri.gives i.dst, q2 _, ?_⟩
      intro l
      by_cases hl : ∃ s, l = .slot s ∧ x.dst = some s
      · obtain ⟨s, rfl, hs⟩ := hl
        rw [mem_putOwn, mem_putOwn (own := ri.own)]
        have h3 := (g3 s hs).1
        rw [mem_putOwn] at h3
        constructor
        · rintro (⟨s', e1, e2, e3⟩ | ⟨_, e⟩)
          · refine .inr ⟨h3.2 (.inl ⟨s', e1, e2, e3⟩), fun s2 e4 e5 => ?_⟩
            injection e5 with e5; subst e5; exact hne _ hs e4
          · exact absurd rfl (e s hs)
        · rintro (⟨s', e1, e2, e3⟩ | ⟨e, _⟩)
          · injection e2 with e2; subst e2; exact absurd e1 (hne _ hs)
          · rcases h3.1 e with ⟨s', e1, e2, e3⟩ | ⟨_, e2⟩
            · exact .inl ⟨s', e1, e2, e3⟩
            · exact absurd rfl (e2 s hs)
      · have hl' : ∀ s, l = .slot s → ¬ x.dst = some s := fun s e1 e2 => hl ⟨s, e1, e2⟩
        rw [mem_putOwn, mem_putOwn, mem_putOwn (own := ri.own), g2 l hl']
        constructor
        · rintro (⟨s', e1, e2, e3⟩ | ⟨e, _⟩)
          · exact absurd e1 (hl' s' e2)
          · exact e
        · intro e
          exact .inr ⟨e, fun s e1 e2 => hl' s e2 e1⟩
    | true =>
      have hei : ends ops i = false := by
        rcases u.e with h | h
        · rw [hex] at h; cases h
        · exact h
      obtain ⟨q1, q2⟩ := coreW_own hei f1
      simp only at q1 q2
      have hlike : Like (fun s => i.dst = some s) st.own (putOwn st.own ri.gives i.dst) := by
        intro l hl
        rw [mem_putOwn]
        constructor
        · intro h
          exact .inr ⟨h, fun s e1 e2 => hl s e2 e1⟩
        · rintro (⟨s, e1, e2, _⟩ | ⟨e, _⟩)
          · exact absurd e1 (hl s e2)
          · exact e
      obtain ⟨ox, g1, g2, g3⟩ := coreW_frame (S := fun s => i.dst = some s) (fun s hs => u.r2 s hs) hlike f2
      simp only at g1 g2 g3
      refine ⟨st.own, q2 _, ox, g1, ?_⟩
      intro l
      rw [q1]
      by_cases hl : ∃ s, l = .slot s ∧ i.dst = some s
      · obtain ⟨s, rfl, hs⟩ := hl
        rw [mem_putOwn, mem_putOwn]
        have h3 := (g3 s hs).2
        rw [mem_putOwn] at h3
        constructor
        · rintro (⟨s', e1, e2, e3⟩ | ⟨e, _⟩)
          · injection e2 with e2; subst e2; exact absurd hs (hne _ e1)
          · rcases h3.1 e with h | ⟨_, e2⟩
            · exact .inl h
            · exact absurd rfl (e2 s hs)
        · rintro (⟨s', e1, e2, e3⟩ | ⟨_, e⟩)
          · refine .inr ⟨h3.2 (.inl ⟨s', e1, e2, e3⟩), fun s2 e4 e5 => ?_⟩
            injection e5 with e5; subst e5; exact hne _ e4 hs
          · exact absurd rfl (e s hs)
      · have hl' : ∀ s, l = .slot s → ¬ i.dst = some s := fun s e1 e2 => hl ⟨s, e1, e2⟩
        rw [mem_putOwn, mem_putOwn, mem_putOwn, g2 l hl']
        constructor
        · intro e
          exact .inr ⟨e, fun s e1 e2 => hl' s e2 e1⟩
        · rintro (⟨s', e1, e2, e3⟩ | ⟨e, _⟩)
          · exact absurd e1 (hl' s' e2)
          · exact e
  obtain ⟨oi, g1, ox, g2, g3⟩ := hO
  refine ⟨⟨putEnv st.env i.dst ri.val, Hi, putOwn oi ri.gives i.dst⟩, ⟨putEnv (putEnv st.env i.dst ri.val) x.dst rx.val, ri.H, putOwn ox rx.gives x.dst⟩,
    stepW_iff.2 ⟨_, g1, put_iff.2 ⟨hni, rfl⟩⟩, stepW_iff.2 ⟨⟨rx.val, ri.H, ox, rx.gives⟩, ?_, put_iff.2 ⟨hnx, rfl⟩⟩, ?_, rfl, g3⟩
  · simp only
    rw [← g2]
    apply coreW_env
    intro s hs
    rw [look_putEnv, if_neg]
    intro e
    exact u.r2 s e hs
  · intro k
    simp only [look_putEnv]
    by_cases h1 : x.dst = some k
    · rw [if_pos h1, if_pos h1, if_neg (u.r1 k h1).2]
    · rw [if_neg h1, if_neg h1]

theorem stepW_eq {o : Oper} {st st' s1 : St} (h : EqSt st st') (hs : stepW call P nt (some (base, lt)) ops o st = some s1) : ∃ s1', stepW call P nt (some (base, lt)) ops o st' = some s1' ∧ EqSt s1 s1' := by
  obtain ⟨r, hc, hp⟩ := stepW_iff.1 hs
  obtain ⟨hn, rfl⟩ := put_iff.1 hp
  rw [coreW_env (env' := st'.env) fun s _ => h.env s, h.H] at hc
  obtain ⟨oo, g1, g2, _⟩ := coreW_frame (S := fun _ => False) (fun s hs => hs.elim) (own' := st'.own) (fun l _ => h.own l) hc
  refine ⟨_, stepW_iff.2 ⟨_, g1, put_iff.2 ⟨hn, rfl⟩⟩, ?_, rfl, ?_⟩
  · intro k; simp only [look_putEnv, h.env k]
  · intro l
    rw [mem_putOwn, mem_putOwn, g2 l fun s _ hs => hs.elim]
theorem runOps_eq : ∀ (l : List Oper) {st st' s1 : St}, EqSt st st' → runOps call P nt (some (base, lt)) ops l st = some s1 → ∃ s1', runOps call P nt (some (base, lt)) ops l st' = some s1' ∧ EqSt s1 s1'
  | [], _, _, _, h, hs => by simp only [runOps, Option.some.injEq] at hs ⊢; subst hs; exact ⟨_, rfl, h⟩
  | o :: l, st, st', s1, h, hs => by
    simp only [runOps] at hs ⊢
    split at hs
    · rename_i q hq
      obtain ⟨q', hq', he⟩ := stepW_eq h hq
      obtain ⟨s1', h1, h2⟩ := runOps_eq l he hs
      exact ⟨s1', by rw [hq']; exact h1, h2⟩
    · cases hs
theorem EqSt.trans {a b c : St} (h : EqSt a b) (k : EqSt b c) : EqSt a c := ⟨fun s => (h.env s).trans (k.env s), h.H.trans k.H, fun l => (h.own l).trans (k.own l)⟩
theorem EqSt.symm {a b : St} (h : EqSt a b) : EqSt b a := ⟨fun s => (h.env s).symm, h.H.symm, fun l => (h.own l).symm⟩

/-- An operation that has nothing to do with those ahead of it goes first. -/
theorem front {i : Oper} : ∀ (l : List Oper) {st stA stB : St}, runOps call P nt (some (base, lt)) ops l st = some stA → stepW call P nt (some (base, lt)) ops i stA = some stB → (∀ x ∈ l, Unord ops lt x i) →
    (∀ t a id off, i.op = .load t a → evalO st.env a = some (.ptr id off) → Live st.H id) →
    ∃ s1 s2, stepW call P nt (some (base, lt)) ops i st = some s1 ∧ runOps call P nt (some (base, lt)) ops l s1 = some s2 ∧ EqSt s2 stB
  | [], st, stA, stB, hr, hi, _, _ => by
    simp only [runOps, Option.some.injEq] at hr; subst hr
    exact ⟨stB, stB, hi, rfl, fun _ => rfl, rfl, fun _ => Iff.rfl⟩
  | x :: l, st, stA, stB, hr, hi, hu, hv => by
    simp only [runOps] at hr
    split at hr
    case h_2 => cases hr
    rename_i st1 hx
    have ux := hu x (by simp)
    obtain ⟨t1, t2, ht1, ht2, heq⟩ := front l hr hi (fun y hy => hu y (by simp [hy])) (by
      intro t a id off e1 e2
      obtain ⟨r, hcr, hpr⟩ := stepW_iff.1 hx
      obtain ⟨hn, rfl⟩ := put_iff.1 hpr
      simp only at e2 ⊢
      have : evalO st.env a = some (.ptr id off) := by
        rw [← e2]
        refine evalO_env fun s hs => ?_
        rw [look_putEnv, if_neg]
        intro e
        refine (ux.r1 s e).1 ?_
        unfold reads opSlots
        refine List.mem_append_right _ (List.mem_filterMap.2 ⟨a, by rw [e1]; simp [Op.operands], by rw [hs]⟩)
      have hl := hv t a id off e1 this
      cases hhx : heapOp x with
      | true =>
        rcases ux.h1 hhx with h | ⟨h1, h2, _⟩
        · exact absurd e1 ((memOp_parts h).2.2 t a)
        · exact (coreW_store h2 h1 hcr).2 id hl
      | false =>
        obtain ⟨b, hb⟩ := hl
        exact ⟨b, by rw [live_step hhx hcr ⟨b, hb⟩]; exact hb⟩)
    obtain ⟨s1, s2, h1, h2, he⟩ := swap hx ht1 ux hv
    obtain ⟨s3, h3, he3⟩ := runOps_eq l he.symm ht2
    exact ⟨s1, s3, h1, by simp only [runOps, h2]; exact h3, he3.symm.trans heq⟩

theorem runOps_append (l1 l2 : List Oper) (st : St) : runOps call P nt (some (base, lt)) ops (l1 ++ l2) st = (runOps call P nt (some (base, lt)) ops l1 st).bind (runOps call P nt (some (base, lt)) ops l2) := by
  induction l1 generalizing st with
  | nil => rfl
  | cons o l ih =>
    simp only [List.cons_append, runOps]
    split
    · rename_i q hq; exact ih q
    · rfl

end
end Go.Proofs.Ytnajopkaepjncaa.Am

/- The abstract machine is right, nineteenth part: regions that draw the order of their operations. -/
namespace Go.Proofs.Ytnajopkaepjncaa.Am
set_option linter.unusedVariables false
set_option linter.unusedSimpArgs false
open Go.RowKit

section
variable {P : Program} {call : CallA} {nt : Nat}

/-! ### what the text of a region says -/
def Listed (l : Array Bool) (k : Nat) : Prop := l.getD k false = true
def Heard (ops : List Oper) (l : Array Bool) (j : Nat) : Prop := ∀ o, ops[j]? = some o → ∀ e ∈ o.after.toList, Region.binds .any e = true → Listed l e.on

theorem ahead_bit (acc : List Nat) (k : Nat) : ∀ (l : List Edge) (m : Nat), (ahead acc l m).testBit k = true → m.testBit k = true ∨ ∃ e ∈ l, Region.binds .any e = true ∧ (k = e.on ∨ (acc.getD e.on 0).testBit k = true)
  | [], m, h => .inl h
  | e :: r, m, h => by
    rcases ahead_bit acc k r _ h with h | ⟨e', h1, h2⟩
    · cases hb : Region.binds .any e with
      | false => rw [hb] at h; exact .inl h
      | true =>
        rw [hb] at h
        simp only [cond_true, Nat.testBit_or, Bool.or_eq_true] at h
        rcases h with (h | h) | h
        · exact .inl h
        · refine .inr ⟨e, by simp, hb, .inl ?_⟩
          rw [Nat.testBit_shiftLeft, Bool.and_eq_true] at h
          have h2 := h.2
          have h1 : k ≥ e.on := by simpa using h.1
          rcases Nat.eq_zero_or_pos (k - e.on) with h0 | h0
          · omega
          · obtain ⟨q, hq⟩ : ∃ q, k - e.on = q + 1 := ⟨k - e.on - 1, by omega⟩
            rw [hq] at h2
            simp [Nat.testBit_succ] at h2
        · exact .inr ⟨e, by simp, hb, .inr h⟩
    · exact .inr ⟨e', by simp [h1], h2⟩

theorem befores_heard {ops : List Oper} {l : Array Bool} (hcl : ∀ k, Listed l k → Heard ops l k) : ∀ (r : List Oper) (acc : List Nat), (∀ k, r[k]? = ops[acc.length + k]?) → (∀ j, Heard ops l j → ∀ k, (acc.getD j 0).testBit k = true → Listed l k) →
    ∀ j, Heard ops l j → ∀ k, ((befores r acc).getD j 0).testBit k = true → Listed l k
  | [], acc, _, h => h
  | o :: r, acc, hr, h => by
    refine befores_heard hcl r _ (fun k => ?_) ?_
    · have := hr (k + 1)
      rw [List.length_append]
      simp only [List.length_cons, List.length_nil]
      rw [← (by omega : acc.length + (k + 1) = acc.length + (0 + 1) + k)]
      simpa using this
    · intro j hj k hk
      rw [List.getD_eq_getElem?_getD] at hk
      rcases Nat.lt_trichotomy j acc.length with hlt | rfl | hgt
      · rw [List.getElem?_append_left hlt, ← List.getD_eq_getElem?_getD] at hk
        exact h j hj k hk
      · rw [List.getElem?_append_right (Nat.le_refl _), Nat.sub_self] at hk
        simp only [List.getElem?_cons_zero, Option.getD_some] at hk
        have ho : ops[acc.length]? = some o := by have := hr 0; simpa using this.symm
        rcases ahead_bit acc k _ _ hk with h0 | ⟨e, he, hb, hk⟩
        · simp at h0
        · have hl := hj o ho e he hb
          rcases hk with rfl | hk
          · exact hl
          · exact h e.on (hcl _ hl) k hk
      · rw [List.getElem?_append_right (by omega)] at hk
        obtain ⟨q, hq⟩ : ∃ q, j - acc.length = q + 1 := ⟨j - acc.length - 1, by omega⟩
        rw [hq] at hk
        simp at hk

theorem region_back {ops : List Oper} (h : regionOk ops = true) {j : Nat} {o : Oper} (ho : ops[j]? = some o) (e : Edge) (he : e ∈ o.after.toList) (hb : Region.binds .any e = true) : e.on < j := by
  unfold regionOk at h
  simp only [Bool.and_eq_true] at h
  have := List.all_eq_true.1 h.1.1 (o, j) (List.mem_zipIdx_iff_getElem?.2 ho)
  have := List.all_eq_true.1 this e he
  rw [hb] at this
  simp only [Bool.not_true, Bool.false_or] at this
  exact Nat.blt_eq.mp this
theorem region_pair {ops : List Oper} (h : regionOk ops = true) {i j : Nat} {x y : Oper} (hx : ops[i]? = some x) (hy : ops[j]? = some y) (hij : i < j) :
    pairOk ops (befores ops []) i j x y = true ∧ ∀ d, x.dst = some d → y.dst ≠ some d := by
  unfold regionOk at h
  simp only [Bool.and_eq_true] at h
  have := List.all_eq_true.1 h.2 (y, j) (List.mem_zipIdx_iff_getElem?.2 hy)
  have := List.all_eq_true.1 this (x, i) (List.mem_zipIdx_iff_getElem?.2 hx)
  simp only at this
  have hb : Nat.blt i j = true := Nat.blt_eq.mpr hij
  rw [hb] at this
  simp only [Bool.not_true, Bool.false_or, Bool.and_eq_true] at this
  refine ⟨this.1, fun d e1 e2 => ?_⟩
  have h2 := this.2
  rw [e1] at h2
  simp only [e2, beq_self_eq_true, Bool.not_true] at h2
  cases h2
theorem pair_unord {ops : List Oper} {bs : List Nat} {i j : Nat} {x y : Oper} (h : pairOk ops bs i j x y = true) (hn : ¬ (bs.getD j 0).testBit i = true) : Unord ops (late ops) x y := by
  unfold pairOk at h
  rw [Bool.or_eq_true] at h
  rcases h with h | h
  · exact absurd h hn
  · simp only [Bool.and_eq_true] at h
    obtain ⟨⟨⟨h1, h2⟩, h3⟩, h4⟩ := h
    refine ⟨?_, ?_, ?_, ?_, ?_⟩
    · intro d hd
      rw [hd] at h1
      simp only [Bool.not_eq_true', Bool.or_eq_false_iff] at h1
      refine ⟨fun hm => ?_, fun e => ?_⟩
      · rw [List.contains_iff_mem.2 hm] at h1; cases h1.1
      · rw [e] at h1; simp at h1
    · intro d hd hm
      rw [hd] at h2
      simp only [Bool.not_eq_true'] at h2
      rw [List.contains_iff_mem.2 hm] at h2; cases h2
    · cases e1 : ends ops x with
      | false => exact .inl rfl
      | true =>
        cases e2 : ends ops y with
        | false => exact .inr rfl
        | true => rw [e1, e2] at h3; cases h3
    · intro e1
      cases e2 : memOp y with
      | false => exact .inl rfl
      | true =>
        rw [e1, e2] at h4
        simp only [Bool.and_self, Bool.true_or, Bool.not_true, Bool.false_or, Bool.and_eq_true, Bool.or_eq_true] at h4
        obtain ⟨h5, h6 | h6⟩ := h4
        · exact .inr ⟨h5, h6⟩
        · have := h6.1
          unfold isLoad at this
          unfold heapOp slOp slTy at e1
          split at this
          · rename_i e; rw [e] at e1; simp at e1
          · cases this
    · intro e1
      cases e2 : memOp x with
      | false => exact .inl rfl
      | true =>
        rw [e1, e2] at h4
        simp only [Bool.and_self, Bool.or_true, Bool.not_true, Bool.false_or, Bool.and_eq_true, Bool.or_eq_true] at h4
        obtain ⟨h5, h6 | h6⟩ := h4
        · have := h6.2
          unfold isLoad at this
          unfold heapOp slOp slTy at e1
          split at this
          · rename_i e; rw [e] at e1; simp at e1
          · cases this
        · exact .inr ⟨h5, h6.2, h6.1⟩

/-! ### what is still to be done -/
def rest (n : Nat) (l : Array Bool) : List Nat := (List.range n).filter fun k => !l.getD k true
def opsAt (ops : Array Oper) (L : List Nat) : List Oper := L.filterMap fun k => ops[k]?

theorem rest_sorted (n : Nat) (l : Array Bool) : (rest n l).Pairwise (· < ·) := List.Pairwise.filter _ (List.pairwise_lt_range)
theorem mem_rest {n : Nat} {l : Array Bool} (hl : l.size = n) {k : Nat} : k ∈ rest n l ↔ k < n ∧ ¬ Listed l k := by
  unfold rest Listed
  simp only [List.mem_filter, List.mem_range, Bool.not_eq_true']
  constructor
  · rintro ⟨h1, h2⟩
    refine ⟨h1, ?_⟩
    simp only [Array.getD_eq_getD_getElem?] at *
    rw [Array.getElem?_eq_getElem (by omega)] at *
    simp only [Option.getD_some] at *
    rw [h2]; simp
  · rintro ⟨h1, h2⟩
    refine ⟨h1, ?_⟩
    simp only [Array.getD_eq_getD_getElem?] at *
    rw [Array.getElem?_eq_getElem (by omega)] at *
    simpa using h2
theorem rest_take {n : Nat} {l : Array Bool} {i : Nat} {A B : List Nat} (hl : l.size = n) (h : rest n l = A ++ i :: B) : rest n (l.setIfInBounds i true) = A ++ B := by
  have hs := rest_sorted n l
  rw [h] at hs
  have hin : i ∈ rest n l := by rw [h]; simp
  have h1 : rest n (l.setIfInBounds i true) = (rest n l).filter (fun k => !(k == i)) := by
    unfold rest
    rw [List.filter_filter]
    apply List.filter_congr
    intro k hk
    by_cases hki : k = i
    · subst hki
      have : k < l.size := by rw [hl]; exact ((mem_rest hl).1 hin).1
      simp [Array.getD_eq_getD_getElem?, this]
    · have : i ≠ k := fun e => hki e.symm
      simp [Array.getD_eq_getD_getElem?, Array.getElem?_setIfInBounds_ne this, hki]
  rw [h1, h, List.filter_append, List.filter_cons]
  rw [List.pairwise_append] at hs
  obtain ⟨_, hs2, hs3⟩ := hs
  rw [List.pairwise_cons] at hs2
  have hA : A.filter (fun k => !(k == i)) = A := List.filter_eq_self.2 fun k hk => by
    have := hs3 k hk i (by simp)
    simp; omega
  have hB : B.filter (fun k => !(k == i)) = B := List.filter_eq_self.2 fun k hk => by
    have := hs2.1 k hk
    simp; omega
  rw [hA, hB]; simp
theorem listed_set {l : Array Bool} {i k : Nat} (h : Listed (l.setIfInBounds i true) k) : Listed l k ∨ k = i := by
  by_cases hki : k = i
  · exact .inr hki
  · have : i ≠ k := fun e => hki e.symm
    unfold Listed at *
    rw [Array.getD_eq_getD_getElem?, Array.getElem?_setIfInBounds_ne this, ← Array.getD_eq_getD_getElem?] at h
    exact .inl h
theorem listed_more {l : Array Bool} {i k : Nat} (h : Listed l k) : Listed (l.setIfInBounds i true) k := by
  unfold Listed at *
  rw [Array.getD_eq_getD_getElem?] at *
  by_cases hki : k = i
  · subst hki
    cases hk : l[k]? with
    | none => rw [hk] at h; cases h
    | some b =>
      have : k < l.size := (Array.getElem?_eq_some_iff.1 hk).1
      rw [Array.getElem?_setIfInBounds_self_of_lt this]; rfl
  · rw [Array.getElem?_setIfInBounds_ne (fun e => hki e.symm)]; exact h

theorem ready_iff {ops : Array Oper} {l : Array Bool} {i : Nat} (hl : l.size = ops.size) : i ∈ Region.ready .any ops l ↔ i ∈ rest ops.size l ∧ Heard ops.toList l i := by
  unfold Region.ready rest
  simp only [List.mem_filter, List.mem_range, Bool.and_eq_true, Bool.not_eq_true']
  constructor
  · rintro ⟨h1, h2, h3⟩
    refine ⟨⟨h1, h2⟩, ?_⟩
    intro o ho e he hb
    rw [Array.getElem?_toList] at ho
    rw [ho] at h3
    simp only [Option.map_some, Option.getD_some] at h3
    have := (Array.all_eq_true'.1 h3) e (by simpa using he)
    rw [hb] at this
    simp only [Bool.not_true, Bool.false_or] at this
    exact this
  · rintro ⟨⟨h1, h2⟩, h3⟩
    refine ⟨h1, h2, ?_⟩
    rw [Array.getElem?_eq_getElem h1]
    simp only [Option.map_some, Option.getD_some]
    refine Array.all_eq_true'.2 fun e he => ?_
    cases hb : Region.binds .any e with
    | false => rfl
    | true =>
      have := h3 ops[i] (by rw [Array.getElem?_toList, Array.getElem?_eq_getElem h1]) e (by simpa using he) hb
      simp only [Bool.not_true, Bool.false_or]
      exact this

theorem rest_ready {ops : Array Oper} {l : Array Bool} (hreg : regionOk ops.toList = true) (hl : l.size = ops.size) (hr : Region.ready .any ops l = []) : rest ops.size l = [] := by
  cases h : rest ops.size l with
  | nil => rfl
  | cons k r =>
    exfalso
    have hk : k ∈ rest ops.size l := by rw [h]; simp
    have hs := rest_sorted ops.size l
    rw [h, List.pairwise_cons] at hs
    have : k ∈ Region.ready .any ops l := by
      rw [ready_iff hl]
      refine ⟨hk, ?_⟩
      intro o ho e he hb
      have hlt := region_back hreg ho e he hb
      cases hx : l.getD e.on false with
      | true => exact hx
      | false =>
        have hm : e.on ∈ rest ops.size l := (mem_rest hl).2 ⟨by have := ((mem_rest hl).1 hk).1; omega, fun hc => by unfold Listed at hc; rw [hx] at hc; cases hc⟩
        rw [h] at hm
        rcases List.mem_cons.1 hm with e1 | e1
        · omega
        · have := hs.1 _ e1; omega
    rw [hr] at this
    cases this

/-! ### the world counts its draws -/
theorem ownsRow_drew {w : World} {n : Nat} {lo : Nat} {e : TypeId} {sz : Nat} {v : Value} {k : Nat} {cells : List Value} (h : w.ownsRow lo e sz v k cells) : ({ w with drawn := n } : World).ownsRow lo e sz v k cells := h
theorem own_drew {G : Gh} {w : World} {n : Nat} {l : Loc} {x : AV} {v : Value} (h : OwnAt P G w l x v) : OwnAt P G { w with drawn := n } l x v := h
theorem drew_rel {G : Gh} {st : St} {a : Act} {w : World} (n : Nat) (h : Rel P G nt st a w) : Rel P G nt st a { w with drawn := n } :=
  ⟨⟨h.ok.fin, h.ok.new⟩, ⟨h.heap.dom, h.heap.blk, h.heap.inj, h.heap.lim⟩, ⟨h.own.slot, h.own.cell, h.own.dom⟩, h.env, h.size, h.defers⟩
theorem drew_ext (G : Gh) (w : World) (n : Nat) : Ext G w G { w with drawn := n } :=
  ⟨rfl, rfl, rfl, Nat.le_refl _, fun _ _ _ h => h, fun _ _ h => h, fun _ => Nat.le_refl _, fun _ _ h => ⟨rfl, rfl, h⟩⟩
theorem Rel.eq {G : Gh} {st st' : St} {a : Act} {w : World} (h : Rel P G nt st a w) (e : EqSt st st') : Rel P G nt st' a w := by
  refine ⟨h.ok, e.H ▸ h.heap, ⟨?_, ?_, ?_⟩, ?_, h.size, h.defers⟩
  · intro s hs; rw [← e.env]; exact h.own.slot s ((e.own _).2 hs)
  · intro id off b k cs hm hf hk hb; exact h.own.cell id off b k cs ((e.own _).2 hm) hf (by rw [e.H]; exact hk) hb
  · intro id off hm; rw [← e.H]; exact h.own.dom id off ((e.own _).2 hm)
  · intro s; rw [← e.env]; exact h.env s

/-- Places are kept. -/
theorem rel_holes {G : Gh} {st : St} {a : Act} {w : World} (h : Rel P G nt st a w) (m : Nat) : Rel P G nt { st with H := st.H ++ List.replicate m none } a w := by
  have key : ∀ id b k, G.f id = some b → (st.H ++ List.replicate m none)[id]? = some (some k) → st.H[id]? = some (some k) := by
    intro id b k hf hk
    rw [List.getElem?_append_left (h.heap.dom id b hf).lt] at hk
    exact hk
  exact ⟨h.ok, ⟨fun id b hf => (h.heap.dom id b hf).append _, fun id b k hf hk => h.heap.blk id b k hf (key id b k hf hk), fun i j b k l h1 h2 h3 h4 => h.heap.inj i j b k l h1 h2 (key i b k h1 h3) (key j b l h2 h4), fun id b k hf hk => h.heap.lim id b k hf (key id b k hf hk)⟩,
    ⟨h.own.slot, fun id off b k cs hm hf hk hb => h.own.cell id off b k cs hm hf (key id b k hf hk) hb, fun id off hm => (h.own.dom id off hm).append _⟩, h.env, h.size, h.defers⟩

theorem any_sound {base : Nat} {ops : Array Oper} {st' : St} {G0 : Gh} {w0 : World} {Q : Exit → Act → World → Prop} (hN : NoNum P) (hcall : CallSound P call) (hreg : regionOk ops.toList = true)
    (hQ : ∀ a' w' G', Rel P G' nt st' a' w' → Ext G0 w0 G' w' → Q Exit.normal a' w') : ∀ (fuel : Nat) (l : Array Bool) (st stX : St) (G : Gh) (a : Act) (w : World), (rest ops.size l).length = fuel → l.size = ops.size →
      (∀ k, Listed l k → Heard ops.toList l k) → runOps call P nt (some (base, late ops.toList)) ops.toList (opsAt ops (rest ops.size l)) st = some stX → EqSt stX st' →
      Rel P G nt st a w → Ext G0 w0 G w → wpAny P .any ops Q fuel l a w := by
  intro fuel
  induction fuel with
  | zero =>
    intro l st stX G a w hf hl hcl hrun heq hR hE
    have hnil : rest ops.size l = [] := List.length_eq_zero_iff.1 hf
    rw [hnil] at hrun
    simp only [opsAt, List.filterMap_nil, runOps, Option.some.injEq] at hrun
    subst hrun
    refine ⟨?_, hQ a w G (hR.eq heq) hE⟩
    cases hr : Region.ready .any ops l with
    | nil => rfl
    | cons k r =>
      have : k ∈ Region.ready .any ops l := by rw [hr]; simp
      rw [ready_iff hl, hnil] at this
      cases this.1
  | succ fuel ih =>
    intro l st stX G a w hf hl hcl hrun heq hR hE
    refine ⟨fun h => ?_, ?_⟩
    · rw [rest_ready hreg hl h] at hf; simp at hf
    · intro i hi
      rw [ready_iff hl] at hi
      obtain ⟨hin, hheard⟩ := hi
      obtain ⟨A, B, hAB⟩ := List.append_of_mem hin
      have hsorted := rest_sorted ops.size l
      rw [hAB] at hsorted
      have hlt := ((mem_rest hl).1 hin).1
      obtain ⟨o, ho⟩ : ∃ o, ops[i]? = some o := ⟨ops[i], Array.getElem?_eq_getElem hlt⟩
      have hsplit : opsAt ops (rest ops.size l) = opsAt ops A ++ o :: opsAt ops B := by
        rw [hAB]; unfold opsAt; rw [List.filterMap_append, List.filterMap_cons_some (f := fun k => ops[k]?) ho]
      have hnext : rest ops.size (l.setIfInBounds i true) = A ++ B := rest_take hl hAB
      rw [hsplit] at hrun
      rw [runOps_append] at hrun
      -- ahead of it
      have hun : ∀ x ∈ opsAt ops A, Unord ops.toList (late ops.toList) x o := by
        intro x hx
        unfold opsAt at hx
        obtain ⟨k, hk, hkx⟩ := List.mem_filterMap.1 hx
        have hkr : k ∈ rest ops.size l := by rw [hAB]; simp [hk]
        rw [List.pairwise_append] at hsorted
        have hki : k < i := hsorted.2.2 k hk i (by simp)
        obtain ⟨h1, h2⟩ := region_pair hreg (i := k) (j := i) (x := x) (y := o) (by rw [Array.getElem?_toList]; exact hkx) (by rw [Array.getElem?_toList]; exact ho) hki
        refine pair_unord h1 fun hm => ?_
        exact ((mem_rest hl).1 hkr).2 (befores_heard hcl ops.toList [] (fun q => by simp) (fun j _ q hq => by simp at hq) i hheard k hm)
      cases hrA : runOps call P nt (some (base, late ops.toList)) ops.toList (opsAt ops A) st with
      | none => rw [hrA] at hrun; cases hrun
      | some stA =>
        rw [hrA] at hrun
        simp only [Option.bind_some, runOps] at hrun
        split at hrun
        case h_2 => cases hrun
        rename_i stB hstB
        have hvalid : ∀ t p id off, o.op = .load t p → evalO st.env p = some (.ptr id off) → Live st.H id := by
          intro t p id off _ e2
          have := hR.env.opd e2
          cases hv : a.eval p <;> rw [hv] at this <;> cases this
          rename_i b hfb
          exact hR.heap.dom _ _ hfb
        obtain ⟨s1, s2, h1, h2, h3⟩ := front (opsAt ops A) hrA hstB hun hvalid
        obtain ⟨stY, h4, h5⟩ := runOps_eq (opsAt ops B) h3.symm hrun
        have hrest : runOps call P nt (some (base, late ops.toList)) ops.toList (opsAt ops (rest ops.size (l.setIfInBounds i true))) s1 = some stY := by
          rw [hnext]
          have : opsAt ops (A ++ B) = opsAt ops A ++ opsAt ops B := by unfold opsAt; rw [List.filterMap_append]
          rw [this, runOps_append, h2]
          exact h4
        have hcl' : ∀ k, Listed (l.setIfInBounds i true) k → Heard ops.toList (l.setIfInBounds i true) k := by
          intro k hk o' ho' e he hb
          rcases listed_set hk with h | rfl
          · exact listed_more (hcl k h o' ho' e he hb)
          · exact listed_more (hheard o' ho' e he hb)
        have hlen : (rest ops.size (l.setIfInBounds i true)).length = fuel := by
          rw [hnext]
          rw [hAB] at hf
          simp only [List.length_append, List.length_cons] at hf ⊢
          omega
        have next : ∀ a' w' G', Rel P G' nt s1 a' w' → Ext G0 w0 G' w' → wpAny P .any ops Q fuel (l.setIfInBounds i true) a' w' := fun a' w' G' hR' hE' =>
          ih _ s1 stY G' a' w' hlen (by simpa using hl) hcl' hrest (h5.symm.trans heq) hR' hE'
        unfold wpOp
        rw [ho]
        simp only
        unfold stepW at h1
        split at h1
        · rename_i hw
          rw [yielded_rel (w := w) hR.env hw, if_pos rfl]
          exact .inl (op_wp hN hcall hR h1 fun a' w' G' hR' hE' => next a' w' G' hR' (hE.trans hE'))
        · rename_i hw
          rw [yielded_rel (w := w) hR.env hw]
          simp only [Bool.false_eq_true, if_false]
          exact next _ _ G (unwanted_put hR h1) hE
        · cases h1

theorem draw_thm (hm : P.follows .mixedOrders = true) (hN : NoNum P) : DrawThm P := by
  intro call hcall nt id ops st st' G a w hreg hrun hR Q hQ
  refine wp_region_any hm ?_
  have hrest : rest ops.size (Array.replicate ops.size false) = List.range ops.size := by
    unfold rest
    refine List.filter_eq_self.2 fun k hk => ?_
    have : k < ops.size := List.mem_range.1 hk
    simp [Array.getD_eq_getD_getElem?, this]
  have hops : opsAt ops (List.range ops.size) = ops.toList := by
    have : ∀ l : List Oper, (List.range l.length).filterMap (fun k => l[k]?) = l := by
      intro l
      induction l with
      | nil => rfl
      | cons o l ih =>
        rw [List.length_cons, List.range_succ_eq_map, List.filterMap_cons_some (f := fun k => (o :: l)[k]?) (a := 0) (b := o) rfl, List.filterMap_map]
        congr 1
    have := this ops.toList
    unfold opsAt
    simpa using this
  refine any_sound (st' := st') (G0 := G) (w0 := w) hN hcall hreg hQ ops.size _ _ st' G a _ (by rw [hrest, List.length_range]) (by simp) ?_ (by rw [hrest, hops]; exact hrun) ⟨fun _ => rfl, rfl, fun _ => Iff.rfl⟩ (drew_rel _ (rel_holes hR _)) (drew_ext _ _ _)
  · intro k hk
    unfold Listed at hk
    rw [Array.getD_eq_getD_getElem?] at hk
    by_cases hlt : k < ops.size
    · simp [hlt] at hk
    · simp [hlt] at hk

end
end Go.Proofs.Ytnajopkaepjncaa.Am

/- The abstract machine is right, twentieth part: what is looked up in a program's text. -/
namespace Go.Proofs.Ytnajopkaepjncaa.Am

def funcOk (fn : Func) : Bool :=
  !(fn.name == "runtime.NumGoroutine") && match fn.body with
    | some c => codeOk c
    | none => true
def progOk (P : Program) : Bool := P.follows .mixedOrders && P.funcs.all funcOk

theorem pok_of {P : Program} (h : progOk P = true) : POk P := by
  unfold progOk at h
  rw [Bool.and_eq_true] at h
  have hall : ∀ (f : Nat) (fn : Func), P.funcs[f]? = some fn → funcOk fn = true := by
    intro f fn hf
    exact (Array.all_eq_true'.1 h.2) fn (Array.mem_of_getElem? hf)
  have hN : NoNum P := by
    intro f fn hf
    have := hall f fn hf
    unfold funcOk at this
    rw [Bool.and_eq_true] at this
    simpa using this.1
  refine ⟨hN, ?_, draw_thm h.1 hN⟩
  intro f fn c hf hc
  have := hall f fn hf
  unfold funcOk at this
  rw [hc, Bool.and_eq_true] at this
  exact this.2

end Go.Proofs.Ytnajopkaepjncaa.Am

/- The program is one that the abstract machine is right of. -/
namespace Go.Proofs.Ytnajopkaepjncaa
theorem pok : Am.POk Try.prog := Am.pok_of (by kernel_rfl)
end Go.Proofs.Ytnajopkaepjncaa
