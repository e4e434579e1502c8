/- The abstract machine is right, fifth part: 'pureOp', whole. -/
import Derived.Test.YtnajopkaepjncaaAm7
namespace Go.Proofs.Ytnajopkaepjncaa.Am
set_option linter.unusedVariables false
set_option linter.unusedSimpArgs false
open Go.RowKit

section
variable {P : Program} {M : Mem} {w : World} {env : List (Nat × AV)} {ρ : Operand → Value}

/-- What the operands hold is what the machine says. -/
def OpsRel (P : Program) (M : Mem) (env : List (Nat × AV)) (ρ : Operand → Value) (xs : List Operand) : Prop := ∀ x ∈ xs, ∀ y, evalO env x = some y → Rep P M y (ρ x)

theorem evalParts_rel : ∀ (ps : List (Nat × Operand)) (vs : List (Nat × AV)), evalParts env ps = some vs → OpsRel P M env ρ (ps.map (·.2)) → PartsRep P M vs (ps.map fun (i, x) => (i, ρ x)) := by
  intro ps
  induction ps with
  | nil => intro vs h _; simp only [evalParts, Option.some.injEq] at h; subst h; trivial
  | cons p r ih =>
    obtain ⟨i, x⟩ := p
    intro vs h hr
    simp only [evalParts] at h
    split at h
    · rename_i v vs' hv hvs
      injection h with h; subst h
      exact ⟨rfl, hr x (by simp) v hv, ih vs' hvs (fun y hy => hr y (by simp only [List.map_cons, List.mem_cons]; exact .inr hy))⟩
    · cases h
theorem evalL_rel : ∀ (xs : List Operand) (vs : List AV), evalL env xs = some vs → OpsRel P M env ρ xs → (xs.map ρ).length = vs.length ∧ ∀ i, i < vs.length → Rep P M (vs.getD i .undef) ((xs.map ρ).getD i undef) := by
  intro xs
  induction xs with
  | nil => intro vs h _; simp only [evalL, Option.some.injEq] at h; subst h; exact ⟨rfl, fun i hi => by simp at hi⟩
  | cons x r ih =>
    intro vs h hr
    simp only [evalL] at h
    split at h
    · rename_i v vs' hv hvs
      injection h with h; subst h
      obtain ⟨h1, h2⟩ := ih vs' hvs (fun y hy => hr y (by simp [hy]))
      refine ⟨by simpa using h1, fun i hi => ?_⟩
      cases i with
      | zero => exact hr x (by simp) v hv
      | succ i =>
        simp only [List.length_cons] at hi
        have := h2 i (by omega)
        simpa [List.getD_eq_getElem?_getD] using this
    · cases h

theorem optA_rel {x : Option Operand} {y : Option AV} (h : optA env x = some y) (hr : OpsRel P M env ρ x.toList) : optRep P M y (x.map ρ) := by
  cases x with
  | none => simp only [optA, Option.some.injEq] at h; subst h; trivial
  | some o =>
    simp only [optA] at h
    cases ho : evalO env o with
    | none => simp [ho] at h
    | some v =>
      simp only [ho, Option.map_some, Option.some.injEq] at h; subst h
      exact hr o (by simp) v ho

theorem slice_sound {t : TypeId} {x r : AV} {lo hi mx : Option AV} {v : Value} {lo' hi' mx' : Option Value} (h : sliceA P t x lo hi mx = some r) (rx : Rep P M x v) (rl : optRep P M lo lo') (rh : optRep P M hi hi') (rm : optRep P M mx mx') :
    ∃ z, (Instr.sliceAt t v lo' hi' mx').run P w = .ok z w ∧ Rep P M r z := by
  unfold sliceA at h
  split at h
  · rename_i hu
    split at h
    · rename_i s
      obtain rfl := str_inv rx
      have hmx : mx' = none := by cases mx' with
        | none => rfl
        | some _ => exact rm.elim
      subst hmx
      split at h
      · rename_i hh hhi
        split at h
        · rename_i l hl
          injection h with h; subst h
          obtain ⟨m', hb, h1, h2, h3, h4, h5⟩ := bounds_sound (w := w) (isS := false) rl rh rm (kn := s.length) (len := s.length) (cap := s.length) (m := s.length) rfl hhi hl (Nat.le_refl _) (Nat.le_refl _) (by simp)
          refine ⟨.string ⟨⟨(s.take hh).drop l⟩⟩, ?_, .str _⟩
          have hsz : ByteArray.size ⟨⟨s⟩⟩ = s.length := by simp [ByteArray.size]
          have he : (⟨⟨s⟩⟩ : ByteArray).extract l hh = ⟨⟨(s.take hh).drop l⟩⟩ := by
            apply ByteArray.ext
            rw [ByteArray.data_extract]
            apply Array.ext'
            simp [List.drop_take]
          simp only [Instr.sliceAt, Instr.slice, Sem.run_bind, run_underlying' hu, Result.andThen_ok, hsz, hb, Option.isSome_none, Bool.false_eq_true, if_false, he, Sem.run_pure]
        · cases h
      · cases h
    · cases h
  · rename_i elem hu
    split at h
    · cases h
    · rename_i hmh0
      have hmh : mx.isSome → hi.isSome := by
        intro hs
        cases hi with
        | some _ => rfl
        | none => simp [hs] at hmh0
      have key : ∀ (a : Option Addr) (len cap kn m hh l : Nat), v = .slice a len cap → boundA mx kn kn = some m → boundA hi len m = some hh → boundA lo 0 hh = some l → kn ≤ cap → len ≤ kn →
          ∀ sz, sizeT P elem = some sz → ∃ m', (Instr.sliceAt t v lo' hi' mx').run P w = .ok (.slice (if m' = l then a else a.map (·.add (l * sz))) (hh - l) (m' - l)) w ∧ l ≤ hh ∧ hh ≤ m ∧ m ≤ m' ∧ m' ≤ cap ∧ m ≤ kn := by
        intro a len cap kn m hh l hv hm hhi hl hk hlen sz hsz
        subst hv
        obtain ⟨m', hb, h1, h2, h3, h4, h5⟩ := bounds_sound (w := w) (isS := true) rl rh rm hm hhi hl hk hlen hmh
        refine ⟨m', ?_, h1, h2, h3, h4, h5⟩
        simp only [Instr.sliceAt, Instr.slice, Sem.run_bind, run_underlying' hu, Result.andThen_ok, hb, run_sizeT hsz, Sem.run_pure]
      split at h
      · cases rx
        split at h
        · rename_i m hm
          split at h
          · rename_i hh hhi
            split at h
            · rename_i l sz hl hsz
              injection h with h; subst h
              obtain ⟨m', hb, h1, h2, h3, h4, h5⟩ := key none 0 0 0 m hh l rfl hm hhi hl (Nat.le_refl 0) (Nat.le_refl 0) sz hsz
              obtain rfl : m' = 0 := by omega
              obtain rfl : l = 0 := by omega
              obtain rfl : hh = 0 := by omega
              exact ⟨_, hb, .nils⟩
            · cases h
          · cases h
        · cases h
      · rename_i e xs sp
        cases rx with
        | lst _ _ _ a cap sz b off c hsz hz hall hcap ha hc hr h1 =>
          split at h
          · rename_i m hm
            split at h
            · rename_i hh hhi
              split at h
              · rename_i l hl
                split at h
                · rename_i he
                  subst he
                  injection h with h; subst h
                  obtain ⟨m', hrun, q1, q2, q3, q4, q5⟩ := key a xs.length cap (xs.length + sp.length) m hh l rfl hm hhi hl hcap (by omega) sz hsz
                  refine ⟨_, hrun, lst_sub hsz hz hall hcap ha hc hr h1 l hh m m' q1 q2 q5 q3 _ ?_⟩
                  intro hlm
                  rw [if_neg (by omega)]
                  have hne : xs ++ sp ≠ [] := by
                    intro e0
                    have : (xs ++ sp).length = 0 := by rw [e0]; rfl
                    rw [List.length_append] at this
                    omega
                  rw [ha hne, Option.map_some, add_addr]
                · cases h
              · cases h
            · cases h
          · cases h
      · rename_i e id off len
        cases rx with
        | sl _ _ _ _ b cap sz hf hsz hz hb hlc =>
          split at h
          · rename_i m hm
            split at h
            · rename_i hh hhi
              split at h
              · rename_i l sz' hl hsz'
                obtain rfl : sz = sz' := by rw [hsz] at hsz'; exact Option.some.inj hsz'
                split at h
                · rename_i he
                  subst he
                  split at h
                  · rename_i hcond
                    injection h with h; subst h
                    obtain ⟨m', hrun, q1, q2, q3, q4, q5⟩ := key (some ⟨b, off, none⟩) len cap len m hh l rfl hm hhi hl hlc (Nat.le_refl _) sz hsz
                    refine ⟨_, hrun, ?_⟩
                    have hadr : (if m' = l then some (⟨b, off, none⟩ : Addr) else (some (⟨b, off, none⟩ : Addr)).map (·.add (l * sz))) = some ⟨b, off + l * sz, none⟩ := by
                      by_cases hml : m' = l
                      · rw [if_pos hml]
                        obtain rfl : l = 0 := by omega
                        simp
                      · rw [if_neg hml, Option.map_some, add_addr]
                    rw [hadr]
                    refine .sl e id _ _ b _ sz hf hsz hz ?_ (by omega)
                    have : l * sz + (m' - l) * sz = m' * sz := by rw [← Nat.add_mul]; congr 1; omega
                    have h2 : m' * sz ≤ cap * sz := Nat.mul_le_mul_right _ q4
                    omega
                  · cases h
                · cases h
              · cases h
            · cases h
          · cases h
      · cases h
  · cases h

theorem fieldPlace_sound {s : TypeId} {f o : Nat} (h : fieldOff P s f = some o) : ∃ fields fd n, P.underlying s = some (.struct fields) ∧ fields[f]? = some fd ∧ sizeT P fd.type = some n ∧ n ≠ 0 ∧ fd.offset = o := by
  unfold fieldOff at h
  split at h
  · rename_i fields hu
    split at h
    · rename_i fd hf
      split at h
      · cases h
      · rename_i n hne hn
        injection h with h
        exact ⟨fields, fd, n, hu, hf, hn, by rintro rfl; exact hne rfl, h⟩
      · cases h
    · cases h
  · cases h
theorem run_fieldAt {s : TypeId} {f o b off : Nat} (h : fieldOff P s f = some o) : (Instr.fieldAt s (.pointer (some ⟨b, off, none⟩)) f).run P w = .ok (.pointer (some ⟨b, off + o, none⟩)) w := by
  obtain ⟨fields, fd, n, hu, hf, hn, hne, rfl⟩ := fieldPlace_sound h
  simp only [Instr.fieldAt, Sem.run_bind, run_underlying' hu, Result.andThen_ok, hf, Instr.sureAddr, Sem.run_pure, fieldPlace, run_sizeT hn, if_neg hne, add_addr]

theorem inRange_spec {i : Int} {n : Nat} (h : inRange i n = true) : 0 ≤ i ∧ i < n := by
  simp [inRange] at h; exact h

theorem indexAddr_sound {t : TypeId} {x i r : AV} {v u : Value} (h : indexAddrA P t x i = some r) (rx : Rep P M x v) (ri : Rep P M i u) : ∃ z, (Instr.indexAt t v u).run P w = .ok z w ∧ Rep P M r z := by
  unfold indexAddrA at h
  split at h
  · rename_i elem k n hu
    obtain rfl := int_inv ri
    split at h
    · rename_i e xs sp
      split at h
      · rename_i hc
        simp only [Bool.and_eq_true, beq_iff_eq, decide_eq_true_eq] at hc
        obtain ⟨he, hr⟩ := hc
        subst he
        obtain ⟨h0, h1⟩ := inRange_spec hr
        cases hx : xs[n.toNat]? with
        | none => simp [hx] at h
        | some y =>
          simp only [hx, Option.map_some, Option.some.injEq] at h; subst h
          obtain ⟨b, off, cap, sz, hsz, hz, rfl, hrep, _⟩ := lst_elem rx n.toNat y (by rw [List.getElem?_append_left (by omega)]; exact hx)
          refine ⟨_, ?_, hrep⟩
          simp only [Instr.indexAt, Sem.run_bind, asIntOf, Sem.run_pure, Result.andThen_ok, run_underlying' hu]
          rw [if_pos ⟨h0, h1⟩]
          simp only [Sem.run_bind, run_sizeT hsz, Result.andThen_ok, Sem.run_pure, add_addr]
      · cases h
    · rename_i e id off len
      split at h
      · rename_i sz' hsz'
        split at h
        · rename_i hc
          simp only [Bool.and_eq_true, beq_iff_eq, decide_eq_true_eq] at hc
          obtain ⟨he, hr⟩ := hc
          subst he
          obtain ⟨h0, h1⟩ := inRange_spec hr
          injection h with h; subst h
          cases rx with
          | sl _ _ _ _ b cap sz hf hsz hz hb hlc =>
            refine ⟨_, ?_, .ptr id _ b hf⟩
            simp only [Instr.indexAt, Sem.run_bind, asIntOf, Sem.run_pure, Result.andThen_ok, run_underlying' hu]
            rw [if_pos ⟨h0, h1⟩]
            simp only [Sem.run_bind, run_sizeT hsz', Result.andThen_ok, Sem.run_pure, add_addr]
        · cases h
      · cases h
    · cases h
  · rename_i len elem k n hu
    obtain rfl := int_inv ri
    split at h
    · rename_i sz hsz
      split at h
      · rename_i hr
        obtain ⟨h0, h1⟩ := inRange_spec hr
        have key : ∀ b off, (Instr.indexAt t (.pointer (some ⟨b, off, none⟩)) (.int k n)).run P w = .ok (.pointer (some ⟨b, off + n.toNat * sz, none⟩)) w := by
          intro b off
          simp only [Instr.indexAt, Sem.run_bind, asIntOf, Sem.run_pure, Result.andThen_ok, run_underlying' hu, Instr.sureAddr]
          rw [if_pos ⟨h0, h1⟩]
          simp only [Sem.run_bind, run_sizeT hsz, Result.andThen_ok, Sem.run_pure, add_addr]
        split at h
        · rename_i id off
          injection h with h; subst h
          cases rx with
          | ptr _ _ b hf => exact ⟨_, key b off, .ptr id _ b hf⟩
        · rename_i cs off
          injection h with h; subst h
          cases rx with
          | ept _ _ b o c hc hr h1 =>
            refine ⟨_, key b (o + off), ?_⟩
            rw [Nat.add_assoc]
            exact .ept cs _ b o c hc hr h1
        · cases h
      · cases h
    · cases h
  · cases h

theorem index_sound {t : TypeId} {x i r : AV} {v u : Value} (h : indexA P t x i = some r) (rx : Rep P M x v) (ri : Rep P M i u) : ∃ z, (Instr.index t v u).run P w = .ok z w ∧ Rep P M r z := by
  unfold indexA at h
  split at h
  · rename_i len elem cs k n hu
    obtain rfl := int_inv ri
    obtain ⟨vs, rfl, hvs⟩ := agg_inv rx
    split at h
    · rename_i sz hsz
      split at h
      · rename_i hr
        obtain ⟨h0, h1⟩ := inRange_spec hr
        obtain ⟨z, hz, rz⟩ := part_sound (w := w) h hvs
        refine ⟨z, ?_, rz⟩
        simp only [Instr.index, Sem.run_bind, asIntOf, Sem.run_pure, Result.andThen_ok, run_underlying' hu]
        rw [if_pos ⟨h0, h1⟩]
        simp only [Sem.run_bind, run_sizeT hsz, Result.andThen_ok, hz]
      · cases h
    · cases h
  · rename_i s k n hu
    obtain rfl := int_inv ri
    obtain rfl := str_inv rx
    split at h
    · rename_i h0
      cases hs : s[n.toNat]? with
      | none => simp [hs] at h
      | some b =>
        simp only [hs, Option.map_some, Option.some.injEq] at h; subst h
        refine ⟨.int .u8 b.toNat, ?_, .int _ _⟩
        have hb : (⟨⟨s⟩⟩ : ByteArray)[n.toNat]? = some b := by
          have hlt : n.toNat < s.length := by
            rcases Nat.lt_or_ge n.toNat s.length with h | h
            · exact h
            · rw [List.getElem?_eq_none h] at hs; cases hs
          have hlt' : n.toNat < ByteArray.size ⟨⟨s⟩⟩ := by simpa [ByteArray.size] using hlt
          rw [getElem?_pos (⟨⟨s⟩⟩ : ByteArray) n.toNat hlt']
          rw [List.getElem?_eq_getElem hlt] at hs
          exact hs
        simp only [Instr.index, Sem.run_bind, asIntOf, Sem.run_pure, Result.andThen_ok, run_underlying' hu, if_pos h0, hb]
    · cases h
  · cases h

end
end Go.Proofs.Ytnajopkaepjncaa.Am
