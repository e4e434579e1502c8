/- The abstract machine is right, sixth part: 'pureOp' against the model's own step. -/
import Derived.Test.YtnajopkaepjncaaAm8
namespace Go.Proofs.Ytnajopkaepjncaa.Am
set_option linter.unusedVariables false
set_option linter.unusedSimpArgs false
open Go.RowKit

section
variable {P : Program} {M : Mem} {w : World} {env : List (Nat × AV)} {ρ : Operand → Value}

theorem pureOp_sound {o : Oper} {r : AV} (h : pureOp P env o.op = some r) (hr : OpsRel P M env ρ o.op.operands.toList) :
    ∃ v, (execOp ρ o).run P w = .ok (.value v) w ∧ Rep P M r v := by
  obtain ⟨dst, op, ty, pos, after, guard⟩ := o
  simp only at h hr
  unfold pureOp at h
  split at h
  case h_1 x => exact ⟨ρ x, rfl, hr x (by simp [Op.operands]) r h⟩
  case h_2 x => exact ⟨ρ x, rfl, hr x (by simp [Op.operands]) r h⟩
  case h_3 c a b =>
    split at h
    · rename_i t hc
      have := bool_inv (hr c (by simp [Op.operands]) _ hc)
      cases t
      · exact ⟨ρ b, by simp [execOp, this, asBool], hr b (by simp [Op.operands]) r h⟩
      · exact ⟨ρ a, by simp [execOp, this, asBool], hr a (by simp [Op.operands]) r h⟩
    · cases h
  case h_4 t parts =>
    split at h
    · rename_i ps hps
      have hp := evalParts_rel parts.toList ps hps (fun x hx => hr x (by simpa [Op.operands] using hx))
      obtain ⟨v, hv, rv⟩ := build_sound (w := w) (qs := parts.map fun (i, x) => (i, ρ x)) h (by simpa using hp)
      exact ⟨v, by simp only [execOp, Sem.run_bind, hv, Result.andThen_ok, Sem.run_pure], rv⟩
    · cases h
  case h_5 x =>
    split at h
    · rename_i i o hx; injection h with h; subst h
      have r1 := hr x (by simp [Op.operands]) _ hx
      generalize hv : ρ x = v at r1
      cases r1 with
      | ptr _ _ b hf => exact ⟨_, by simp only [execOp, hv]; rfl, .ptr _ _ b hf⟩
    · rename_i c o hx; injection h with h; subst h
      have r1 := hr x (by simp [Op.operands]) _ hx
      generalize hv : ρ x = v at r1
      cases r1 with
      | ept _ _ b o' c' hc hrr h1 => exact ⟨_, by simp only [execOp, hv]; rfl, .ept _ _ b o' c' hc hrr h1⟩
    · rename_i t v' hx; injection h with h; subst h
      have r1 := hr x (by simp [Op.operands]) _ hx
      generalize hv : ρ x = v at r1
      cases r1 with
      | iface _ _ u hu => exact ⟨_, by simp only [execOp, hv]; rfl, .iface _ _ u hu⟩
    · rename_i f c hx; injection h with h; subst h
      have r1 := hr x (by simp [Op.operands]) _ hx
      generalize hv : ρ x = v at r1
      cases r1 with
      | fn _ _ vs hl hh => exact ⟨_, by simp only [execOp, hv]; rfl, .fn _ _ vs hl hh⟩
    · cases h
  case h_6 op t x y yt =>
    split at h
    · rename_i a b ha hb
      obtain ⟨z, hz, rz⟩ := binOp_sound (w := w) h (hr x (by simp [Op.operands]) _ ha) (hr y (by simp [Op.operands]) _ hb) (yt := yt)
      refine ⟨z, ?_, rz⟩
      simp only [Sem.run_bind] at hz
      simp only [execOp, Sem.run_bind, hz, Result.andThen_ok, Sem.run_pure]
    · cases h
  case h_7 op t x =>
    split at h
    · rename_i a ha
      obtain ⟨z, hz, rz⟩ := unOp_sound (w := w) h (hr x (by simp [Op.operands]) _ ha)
      exact ⟨z, by simp only [execOp, Sem.run_bind, hz, Result.andThen_ok, Sem.run_pure], rz⟩
    · cases h
  case h_8 src d x =>
    split at h
    · rename_i a ha
      obtain ⟨z, hz, rz⟩ := conv_sound (w := w) h (hr x (by simp [Op.operands]) _ ha)
      exact ⟨z, by simp only [execOp, Sem.run_bind, hz, Result.andThen_ok, Sem.run_pure], rz⟩
    · cases h
  case h_9 t x =>
    split at h
    · cases h
    · rename_i a d hni ha hd
      injection h with h; subst h
      refine ⟨.iface t (ρ x), ?_, .iface _ _ _ (hr x (by simp [Op.operands]) _ ha)⟩
      simp only [execOp, Instr.makeInterface, Sem.run_bind, run_underlying' hd, Result.andThen_ok]
      cases d <;> first | rfl | exact absurd rfl (hni _)
    · cases h
  case h_10 f first captured =>
    split at h
    · rename_i h0
      cases hc : evalL env captured.toList with
      | none => simp [hc] at h
      | some vs =>
        simp only [hc, Option.map_some, Option.some.injEq] at h; subst h
        obtain ⟨h1, h2⟩ := evalL_rel captured.toList vs hc (fun x hx => hr x (by simp only [Op.operands, Array.toList_append, List.mem_append]; exact .inr hx))
        have hf : first = #[] := Array.eq_empty_of_size_eq_zero h0
        subst hf
        refine ⟨.func (.func f) #[] (captured.map ρ), by simp [execOp, Instr.makeFunc], .fn f vs _ (by simpa using h1) ?_⟩
        intro i hi
        have := h2 i hi
        simpa [List.getD_eq_getElem?_getD, Array.getD_eq_getD_getElem?] using this
    · cases h
  case h_11 t x lo hi mx =>
    split at h
    · rename_i a l hh m ha hl hhi hm
      obtain ⟨z, hz, rz⟩ := slice_sound (w := w) h (hr x (by simp [Op.operands]) _ ha) (optA_rel hl fun y hy => hr y (by simp [Op.operands]; simp at hy; simp [hy])) (optA_rel hhi fun y hy => hr y (by simp [Op.operands]; simp at hy; simp [hy])) (optA_rel hm fun y hy => hr y (by simp [Op.operands]; simp at hy; simp [hy]))
      exact ⟨z, by simp only [execOp, Sem.run_bind, hz, Result.andThen_ok, Sem.run_pure], rz⟩
    · cases h
  case h_12 s x f =>
    split at h
    · rename_i id off o hx ho
      injection h with h; subst h
      have := hr x (by simp [Op.operands]) _ hx
      generalize hv : ρ x = v at this
      cases this with
      | ptr _ _ b hf => exact ⟨_, by simp only [execOp, hv, Sem.run_bind, run_fieldAt ho, Result.andThen_ok, Sem.run_pure], .ptr _ _ b hf⟩
    · rename_i cs off o hx ho
      injection h with h; subst h
      have := hr x (by simp [Op.operands]) _ hx
      generalize hv : ρ x = v at this
      cases this with
      | ept _ _ b o' c hc hrr h1 =>
        refine ⟨.pointer (some ⟨b, o' + off + o, none⟩), by simp only [execOp, hv, Sem.run_bind, run_fieldAt ho, Result.andThen_ok, Sem.run_pure], ?_⟩
        rw [Nat.add_assoc]
        exact .ept cs _ b o' c hc hrr h1
    · cases h
  case h_13 t x f =>
    split at h
    · rename_i cs fields hx hu
      split at h
      · rename_i fd hf
        obtain ⟨vs, hvs, cvs⟩ := agg_inv (hr x (by simp [Op.operands]) _ hx)
        obtain ⟨z, hz, rz⟩ := part_sound (w := w) h cvs
        refine ⟨z, ?_, rz⟩
        simp only [execOp, Instr.field, Sem.run_bind, run_underlying' hu, Result.andThen_ok, hf, hvs, asAgg, Sem.run_pure, hz]
      · cases h
    · cases h
  case h_14 t x i =>
    split at h
    · rename_i a b ha hb
      obtain ⟨z, hz, rz⟩ := indexAddr_sound (w := w) h (hr x (by simp [Op.operands]) _ ha) (hr i (by simp [Op.operands]) _ hb)
      exact ⟨z, by simp only [execOp, Sem.run_bind, hz, Result.andThen_ok, Sem.run_pure], rz⟩
    · cases h
  case h_15 t x i =>
    split at h
    · rename_i a b ha hb
      obtain ⟨z, hz, rz⟩ := index_sound (w := w) h (hr x (by simp [Op.operands]) _ ha) (hr i (by simp [Op.operands]) _ hb)
      exact ⟨z, by simp only [execOp, Sem.run_bind, hz, Result.andThen_ok, Sem.run_pure], rz⟩
    · cases h
  case h_16 t i =>
    split at h
    · rename_i vs ht
      have := hr t (by simp [Op.operands]) _ ht
      generalize hv : ρ t = v at this
      cases this with
      | tup _ us hl hh =>
        have hlt : i < vs.length := by
          rcases Nat.lt_or_ge i vs.length with hlt | hge
          · exact hlt
          · rw [List.getElem?_eq_none hge] at h; cases h
        have hlt' : i < us.size := by omega
        refine ⟨us.getD i undef, ?_, ?_⟩
        · simp only [execOp, hv, Instr.extract, Sem.run_bind, Array.getElem?_eq_getElem hlt', Sem.run_pure, Result.andThen_ok, Array.getD_eq_getD_getElem?, Option.getD_some]
        · have := hh i hlt
          rw [List.getD_eq_getElem?_getD, h, Option.getD_some] at this
          exact this
    · cases h
  case h_17 args argTypes =>
    split at h
    · rename_i x t hargs htys
      have ea : args = #[x] := by apply Array.ext'; simpa using hargs
      have et : argTypes = #[t] := by apply Array.ext'; simpa using htys
      subst ea; subst et
      have hx : ∀ y, evalO env x = some y → Rep P M y (ρ x) := hr x (by simp [Op.operands, Call.operands])
      have key : ∀ d v n, P.underlying t = some d → ρ x = v → (Builtin.len_ #[t] ty #[v]).run P w = .ok (.int .i64 n) w → (execOp ρ { dst := dst, op := .call { callee := .builtin .len, args := #[x], argTypes := #[t] }, type := ty, pos := pos, after := after, guard := guard }).run P w = .ok (.value (.int .i64 n)) w := by
        intro d v n hd hv hl
        simp only [execOp, resolve, Sem.run_bind, Sem.run_pure, Result.andThen_ok, invoke, builtin, List.map_toArray, List.map_cons, List.map_nil, hv, hl]
      split at h
      · rename_i s hu he
        have e := str_inv (hx _ he)
        injection h with h; subst h
        refine ⟨_, key _ _ s.length hu e ?_, .int _ _⟩
        simp only [Builtin.len_, List.getElem?_toArray, List.getElem?_cons_zero, Sem.run_bind, run_underlying' hu, Result.andThen_ok, Sem.run_pure]; rfl
      · rename_i el e xs sp hu he
        have r1 := hx _ he
        injection h with h; subst h
        generalize hv : ρ x = v at r1
        cases r1 with
        | lst _ _ _ a cap sz b off c hsz hz hall hcap ha hc hr h1 =>
          refine ⟨_, key _ _ xs.length hu hv ?_, .int _ _⟩
          simp only [Builtin.len_, List.getElem?_toArray, List.getElem?_cons_zero, Sem.run_bind, run_underlying' hu, Result.andThen_ok, Sem.run_pure]; rfl
      · rename_i el e id off n hu he
        have r1 := hx _ he
        injection h with h; subst h
        generalize hv : ρ x = v at r1
        cases r1 with
        | sl _ _ _ _ b cap sz hf hsz hz hb hl =>
          refine ⟨_, key _ _ n hu hv ?_, .int _ _⟩
          simp only [Builtin.len_, List.getElem?_toArray, List.getElem?_cons_zero, Sem.run_bind, run_underlying' hu, Result.andThen_ok, Sem.run_pure]; rfl
      · rename_i el hu he
        have r1 := hx _ he
        injection h with h; subst h
        generalize hv : ρ x = v at r1
        cases r1 with
        | nils =>
          refine ⟨_, key _ _ 0 hu hv ?_, .int _ _⟩
          simp only [Builtin.len_, List.getElem?_toArray, List.getElem?_cons_zero, Sem.run_bind, run_underlying' hu, Result.andThen_ok, Sem.run_pure]; rfl
      · rename_i n el y hu he
        injection h with h; subst h
        refine ⟨_, key _ _ n hu rfl ?_, .int _ _⟩
        simp only [Builtin.len_, List.getElem?_toArray, List.getElem?_cons_zero, Sem.run_bind, run_underlying' hu, Result.andThen_ok, Sem.run_pure]; rfl
      · rename_i k e hu he
        have r1 := hx _ he
        injection h with h; subst h
        generalize hv : ρ x = v at r1
        cases r1 with
        | nilm =>
          refine ⟨_, key _ _ 0 hu hv ?_, .int _ _⟩
          simp only [Builtin.len_, List.getElem?_toArray, List.getElem?_cons_zero, Sem.run_bind, run_underlying' hu, Result.andThen_ok, Sem.run_pure]; rfl
      · cases h
    · cases h
  case h_18 => cases h

end
end Go.Proofs.Ytnajopkaepjncaa.Am
