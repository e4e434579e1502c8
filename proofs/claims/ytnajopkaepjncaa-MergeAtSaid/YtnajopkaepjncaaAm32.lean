/- Readings of arguments, second part: each reading is a value of its type. -/
import Derived.Test.YtnajopkaepjncaaAm31
import Derived.ChangeReads
namespace Go.Proofs.Ytnajopkaepjncaa.Am
set_option linter.unusedVariables false
set_option linter.unusedSimpArgs false

section
variable {P : Program} {w : World} {M : Mem} {H : Type} {enc : TypeId × Value → H} {held : Bool}

theorem mapM_each {α β : Type} {g : α → Option β} : ∀ {l : List α} {ys : List β}, l.mapM g = some ys → ∀ x ∈ l, ∃ y, g x = some y
  | [], ys, h, x, hx => by cases hx
  | a :: l, ys, h, x, hx => by
    rw [List.mapM_cons] at h
    cases ha : g a with
    | none => simp [ha] at h
    | some y =>
      cases hl : l.mapM g with
      | none => simp [ha, hl] at h
      | some zs =>
        rcases List.mem_cons.1 hx with rfl | hx
        · exact ⟨y, ha⟩
        · exact mapM_each hl x hx
theorem list_of {α : Type} {Q : Nat → α → Prop} : ∀ n, (∀ i, i < n → ∃ v, Q i v) → ∃ l : List α, l.length = n ∧ ∀ i v, l[i]? = some v → Q i v
  | 0, _ => ⟨[], rfl, fun i v h => by simp at h⟩
  | n + 1, h => by
    obtain ⟨l, h1, h2⟩ := list_of n fun i hi => h i (by omega)
    obtain ⟨v, hv⟩ := h n (by omega)
    refine ⟨l ++ [v], by simp [h1], fun i u hu => ?_⟩
    by_cases hi : i < l.length
    · rw [List.getElem?_append_left hi] at hu; exact h2 i u hu
    · rw [List.getElem?_append_right (by omega)] at hu
      have hi0 : i - l.length = 0 := by
        rcases Nat.eq_zero_or_pos (i - l.length) with h0 | h0
        · exact h0
        · rw [List.getElem?_eq_none (by simp; omega)] at hu; cases hu
      rw [hi0] at hu
      simp at hu; subst hu
      have : i = n := by omega
      subst this; exact hv

theorem slice_ty {e : TypeId} {agg : Bool} {te : Ty} {sz : Nat} (hM : ∀ b o v, w.cell? ⟨b, o, none⟩ = some v → M.pm b o = some v) (hsz : sizeT P e = some sz) (hte : sz = te.size) (hz : 0 < sz) (hs : (agg || te.single) = true) {a : Addr} {len cap : Nat} (hl : len ≤ cap) (hm : cap ≤ maxLen)
    (hel : ∀ i, i < cap → ∃ c v, w.cells? 0 (a.add (i * sz)) sz = some c ∧ CR P M (te.enc v) c) : ∃ v : (Ty.slice e agg te).den, CR P M ((Ty.slice e agg te).enc v) [.slice (some a) len cap] := by
  obtain ⟨all, h1, h2⟩ := list_of (Q := fun i v => ∃ c, w.cells? 0 (a.add (i * sz)) sz = some c ∧ CR P M (te.enc v) c) cap fun i hi => by obtain ⟨c, v, h⟩ := hel i hi; exact ⟨v, c, h⟩
  refine ⟨some ⟨(all.take len, all.drop len), by simp only [List.length_take, List.length_drop]; omega⟩, CR.single ?_ rfl⟩
  have hcat : (all.take len).map (fun d => elt agg (te.enc d)) ++ (all.drop len).map (fun d => elt agg (te.enc d)) = all.map fun d => elt agg (te.enc d) := by
    rw [← List.map_append, List.take_append_drop]
  have hall : ∀ x ∈ all.map (fun d => elt agg (te.enc d)), x.cells.length = sz := by
    intro x hx
    obtain ⟨d, _, rfl⟩ := List.mem_map.1 hx
    rw [elt_cells hs, enc_len, hte]
  have hplain : all ≠ [] → a = ⟨a.block, a.off, none⟩ := by
    intro hne
    obtain ⟨d, r, rfl⟩ : ∃ d r, all = d :: r := by
      cases all with
      | nil => exact absurd rfl hne
      | cons d r => exact ⟨d, r, rfl⟩
    obtain ⟨c, hc, _⟩ := h2 0 d rfl
    have := (cells_at hc).2 0 hz
    rw [Nat.zero_mul] at this
    have e0 : (a.add 0).add 0 = a := by simp [Addr.add]
    rw [e0] at this
    exact cell_plain this
  have hat : ∀ j, j < (flat (all.map fun d => elt agg (te.enc d))).length → ∃ v, w.cell? ⟨a.block, a.off + j, none⟩ = some v ∧ Rep P M ((flat (all.map fun d => elt agg (te.enc d))).getD j .undef) v ∧ v.oneCell' = true := by
    intro j hj
    rw [flat_len _ hall, List.length_map, h1] at hj
    have hdm : j / sz * sz + j % sz = j := by rw [Nat.mul_comm]; exact Nat.div_add_mod j sz
    have hr : j % sz < sz := Nat.mod_lt _ hz
    have hi : j / sz < cap := Nat.div_lt_of_lt_mul (by rw [Nat.mul_comm]; exact hj)
    obtain ⟨d, hd⟩ : ∃ d, all[j / sz]? = some d := ⟨all[j / sz], List.getElem?_eq_getElem (by omega)⟩
    obtain ⟨c, hc, hcr⟩ := h2 _ d hd
    obtain ⟨hc1, hc2⟩ := cells_at hc
    have hcell := hc2 (j % sz) hr
    have hne : all ≠ [] := by rintro rfl; simp at hd
    rw [hplain hne, add_plain, add_plain, Nat.add_assoc, hdm] at hcell
    refine ⟨_, hcell, ?_, hcr.one _ (by rw [enc_len]; omega)⟩
    have := flat_at _ hall (j / sz) (j % sz) (elt agg (te.enc d)) (by rw [List.getElem?_map, hd]; rfl) hr
    rw [hdm] at this
    rw [this, elt_cells hs]
    exact hcr.rep _ (by rw [enc_len]; omega)
  have hlen : ((all.take len).map fun d => elt agg (te.enc d)).length = len := by simp; omega
  have := Rep.lst (P := P) (M := M) e ((all.take len).map fun d => elt agg (te.enc d)) ((all.drop len).map fun d => elt agg (te.enc d)) (some a) cap sz a.block a.off (fun j => (w.cell? ⟨a.block, a.off + j, none⟩).getD undef) hsz hz (by rw [hcat]; exact hall)
    (by simp only [List.length_map, List.length_take, List.length_drop]; omega) (by
      intro hne
      rw [hcat] at hne
      have : all ≠ [] := by rintro rfl; simp at hne
      rw [← hplain this])
    (by intro j hj; rw [hcat] at hj; obtain ⟨v, h3, _⟩ := hat j hj; rw [h3]; exact hM _ _ _ h3)
    (by intro j hj; rw [hcat] at hj ⊢; obtain ⟨v, h3, h4, _⟩ := hat j hj; rw [h3]; exact h4)
    (by intro j hj; rw [hcat] at hj; obtain ⟨v, h3, _, h5⟩ := hat j hj; rw [h3]; exact h5)
  rw [hlen] at this
  exact this

theorem fields_ty {f : TypeId → Option Ty} {g : TypeId → List Value → Option (DataW H × List MemPlace)} (hg : ∀ t T cs y, f t = some T → g t cs = some y → ∃ v : T.den, CR P M (T.enc v) cs) {cs : List Value} : ∀ (fs : List Field) (off : Nat) (T : Ty) (ys : List (DataW H × List MemPlace)), tyFields f P fs off = some T →
    (fs.mapM fun fd => g fd.type ((cs.drop fd.offset).take (P.cellsOf fd.type))) = some ys → ∃ v : T.den, CR P M (T.enc v) ((cs.drop off).take T.size)
  | [], off, T, ys, h, _ => by
    simp only [tyFields, Option.some.injEq] at h; subst h
    exact ⟨(), by simp only [Ty.size, List.take_zero]; exact CR.nil⟩
  | fd :: r, off, T, ys, h, hy => by
    simp only [tyFields] at h
    cases hf : f fd.type with
    | none => rw [hf] at h; cases h
    | some t =>
      rw [hf] at h
      simp only at h
      split at h
      · rename_i hc
        cases hr : tyFields f P r (off + t.size) with
        | none => rw [hr] at h; cases h
        | some T' =>
          rw [hr] at h
          simp only [Option.map_some, Option.some.injEq] at h; subst h
          rw [List.mapM_cons] at hy
          cases hgd : g fd.type ((cs.drop fd.offset).take (P.cellsOf fd.type)) with
          | none => simp [hgd] at hy
          | some y =>
            cases hrr : r.mapM (fun fd => g fd.type ((cs.drop fd.offset).take (P.cellsOf fd.type))) with
            | none => simp [hgd, hrr] at hy
            | some zs =>
              obtain ⟨v, hv⟩ := hg _ _ _ _ hf hgd
              obtain ⟨v', hv'⟩ := fields_ty hg r (off + t.size) T' zs hr hrr
              refine ⟨(v, v'), ?_⟩
              rw [hc.1, hc.2] at hv
              have e : ((cs.drop off).take (t.size + T'.size)) = (cs.drop off).take t.size ++ (cs.drop (off + t.size)).take T'.size := by
                rw [List.take_add, List.drop_drop]
              show CR P M (t.enc v ++ T'.enc v') ((cs.drop off).take (t.size + T'.size))
              rw [e]
              exact hv.append hv'
      · cases h

theorem trod_ty (hM : ∀ b o v, w.cell? ⟨b, o, none⟩ = some v → M.pm b o = some v) : ∀ (n : Nat) (t : TypeId) (T : Ty) (fuel : Nat) (cs : List Value) (y : DataW H × List MemPlace), tyOf P n t = some T → DataW.trod enc P w 0 (fun _ => true) held fuel t cs = some y → ∃ v : T.den, CR P M (T.enc v) cs := by
  intro n
  induction n with
  | zero => intro t T fuel cs y h; cases h
  | succ n ih =>
    intro t T fuel cs y h hr
    cases fuel with
    | zero => simp [DataW.trod] at hr
    | succ fuel =>
      rw [DataW.trod_step] at hr
      unfold DataW.trodStep at hr
      simp only [tyOf] at h
      split at hr
      · rename_i b hu
        rw [hu] at h
        injection h with h; subst h
        exact ⟨b, CR.single (.bool b) rfl⟩
      · rename_i k k' m hu
        rw [hu] at h
        injection h with h; subst h
        split at hr
        · rename_i hk
          obtain ⟨rfl, hw⟩ := hk
          exact ⟨⟨m, hw⟩, CR.single (.int _ m) rfl⟩
        · cases hr
      · rename_i hu; rw [hu] at h; cases h
      · rename_i s hu
        rw [hu] at h
        injection h with h; subst h
        split at hr
        · rename_i hs
          refine ⟨⟨s.data.toList, by rw [Array.length_toList]; exact hs⟩, CR.single ?_ rfl⟩
          exact .str s.data.toList
        · cases hr
      · rename_i hu; rw [hu] at h; cases h
      · rename_i hu; rw [hu] at h; cases h
      · rename_i e hu
        rw [hu] at h
        simp only at h
        split at h
        · split at h
          · injection h with h; subst h
            exact ⟨none, CR.single .nils rfl⟩
          · cases h
        · cases h
      · rename_i e a len cap hu
        rw [hu] at h
        simp only at h
        split at h
        · rename_i te agg sz h1 h2 h3
          split at h
          · rename_i hc
            obtain ⟨c1, c2, c3⟩ := hc
            injection h with h; subst h
            have hcell : P.cellsOf e = sz := by
              unfold Program.cellsOf
              have : (P.info? e).map (·.size) = some sz := h3
              rw [this]; rfl
            rw [hcell] at hr
            simp only at hr
            split at hr
            · rename_i hb
              obtain ⟨_, hl, hm⟩ := hb
              refine slice_ty hM h3 c1 c2 c3 hl hm ?_
              intro i hi
              cases hA : (List.range len).mapM (fun i => (w.cells? 0 (a.add (i * sz)) sz).bind (DataW.trod enc P w 0 (fun _ => true) held fuel e)) with
              | none => rw [hA] at hr; cases hr
              | some elems =>
                rw [hA] at hr
                simp only [Option.bind_some, if_true] at hr
                cases hB : (List.range (cap - len)).mapM (fun j => (w.cells? 0 (a.add ((len + j) * sz)) sz).bind (DataW.trod enc P w 0 (fun _ => true) held fuel e)) with
                | none => rw [hB] at hr; cases hr
                | some rest =>
                  have hex : ∃ y, (w.cells? 0 (a.add (i * sz)) sz).bind (DataW.trod enc P w 0 (fun _ => true) held fuel e) = some y := by
                    by_cases hlt : i < len
                    · exact mapM_each hA i (List.mem_range.2 hlt)
                    · have := mapM_each hB (i - len) (List.mem_range.2 (by omega))
                      have e1 : len + (i - len) = i := by omega
                      rw [e1] at this
                      exact this
                  obtain ⟨y, hy⟩ := hex
                  cases hc : w.cells? 0 (a.add (i * sz)) sz with
                  | none => rw [hc] at hy; cases hy
                  | some c =>
                    rw [hc] at hy
                    obtain ⟨v, hv⟩ := ih e te fuel c y h1 hy
                    exact ⟨c, v, rfl, hv⟩
            · cases hr
          · cases h
        · cases h
      · rename_i cs x2 cs2 fs hu
        rw [hu] at h
        simp only at h
        split at h
        · rename_i T' hT
          split at h
          · rename_i hc
            injection h with h; subst h
            split at hr
            · rename_i hlen
              cases hm : fs.toList.mapM (fun f => DataW.trod enc P w 0 (fun _ => true) held fuel f.type ((cs.drop f.offset).take (P.cellsOf f.type))) with
              | none => rw [hm] at hr; cases hr
              | some ys =>
                obtain ⟨v, hv⟩ := fields_ty (f := tyOf P n) (g := fun t cs => DataW.trod enc P w 0 (fun _ => true) held fuel t cs) (fun t T cs y h1 h2 => ih t T fuel cs y h1 h2) fs.toList 0 _ ys hT hm
                refine ⟨v, ?_⟩
                rw [List.drop_zero, List.take_of_length_le (by rw [hlen, hc]; exact Nat.le_refl _)] at hv
                exact hv
            · cases hr
          · cases h
        · cases h
      all_goals first
        | (rename_i hu; rw [hu] at h; cases h)
        | (cases hr)
        | (rename_i hu _; rw [hu] at h; cases h)

end
end Go.Proofs.Ytnajopkaepjncaa.Am
