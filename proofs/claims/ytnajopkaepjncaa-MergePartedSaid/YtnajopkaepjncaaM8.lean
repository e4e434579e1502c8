/- Lists that lie in memory made one: Merge's walk, once more. -/
import Derived.Test.YtnajopkaepjncaaM7
import Derived.Test.YtnajopkaepjncaaM3
/- Lists that lie in memory made one: Merge's walk, once more. -/
namespace Go.Proofs.Ytnajopkaepjncaa
open Am
set_option linter.unusedVariables false
set_option linter.unusedSimpArgs false
set_option maxRecDepth 8000

theorem idx_ls {id n i : Nat} (h : i < n) : indexAddrA Try.prog 42 (.sl 22 id 0 n) (.int .i64 (i : Int)) = some (.ptr id i) := by
  have hu : Try.prog.underlying 42 = some (.slice 22) := Try.underlying42
  have hs : sizeT Try.prog 22 = some 1 := rfl
  unfold indexAddrA
  rw [hu]
  simp only [hs]
  have : inRange (i : Int) n = true := by unfold inRange; simp [h]
  rw [this]
  simp
theorem rd_ls {cs : List AV} {i : Nat} {v : AV} (hv : v.isOne = true) (h : cs[i]? = some v) {k : AV → Prop} (hk : k v) : wRd Try.prog 22 i cs k := by
  have hs : sizeT Try.prog 22 = some 1 := rfl
  have hlt : i < cs.length := (List.getElem?_eq_some_iff.1 h).1
  unfold wRd
  rw [hs]
  have e1 : Nat.ble (i + 1) cs.length = true := Nat.ble_eq_true_of_le hlt
  simp only [e1]
  have e2 : (cs.drop i).take 1 = [v] := by
    rw [List.drop_eq_getElem_cons hlt]
    simp only [List.take_succ_cons, List.take_zero]
    rw [List.getElem?_eq_getElem hlt] at h
    injection h with h
    rw [h]
  rw [e2]
  have e3 : ofCells Try.prog 22 [v] = some v := by
    have ha : isAggT Try.prog 22 = some false := rfl
    unfold ofCells
    rw [ha]
    simp only [hv, if_true]
  rw [e3]
  show frc v k
  exact (frc_iff _ _).2 hk
theorem ls_one (q : Ls) : q.av.isOne = true := by
  unfold Ls.av
  cases q.v <;> rfl
theorem wRd_ls {ps : List Ls} {i : Nat} {q : Ls} {k : AV → Prop} (h : (ps.map Ls.av)[i]? = some q.av) (hk : k q.av) : wRd Try.prog 22 i (ps.map Ls.av) k := rd_ls (ls_one q) h hk

theorem headsS_loop (idl : Nat) (ps : List Ls) (hok : ∀ q ∈ ps, q.ok) (hps : ps.length < 100000) (hl : ∀ q ∈ ps, q.l.length < 1048576) (H0 : Hp) (hid : H0[idl]? = some (some ⟨22, ps.map Ls.av⟩)) (idv : Nat) : ∀ (m i : Nat) (hs : List Hd) (H : Hp), ps.length - i = m → HS H0 H idv hs → hs.Perm (headL (ps.take i) 0) → HeapN hs hs.length → (∀ q ∈ ps.take i, orderP q.l = true) →
    L Try.prog K0 (K0.vars 22) 88 c22a [(4, .ptr idv 0), (10, .sl 22 idl 0 ps.length), (11, .int .i64 (ps.length : Nat)), (12, .int .i64 (i : Int))] H [] []
      fun e env H' sl cl => sl = [] ∧ cl = [] ∧ Pf H0 H' ∧ ((e = .ret ∧ (∃ q ∈ ps, orderP q.l = false) ∧ env = [(2, .nils), (3, .int .i64 2)]) ∨ (e = .exit 0 ∧ (∀ q ∈ ps, orderP q.l = true) ∧ (∃ hs', HS H0 H' idv hs' ∧ hs'.Perm (headL ps 0) ∧ HeapN hs' hs'.length) ∧ ∃ v10 v11 v12 v13, env = [(4, .ptr idv 0), (10, v10), (11, v11), (12, v12), (13, v13)])) := by
  intro m
  induction m with
  | zero =>
    intro i hs H hm h hp hh hord
    have ht : ps.take i = ps := List.take_of_length_le (by omega)
    rw [ht] at hp hord
    refine L_round ?_
    refine And.intro (fun h => ?_) (fun _ => ?_)
    · exfalso
      have h := dec_true (p := (i : Int) < (ps.length : Nat)) h
      omega
    · exact And.intro rfl (And.intro rfl (And.intro h.1 (.inr ⟨rfl, hord, ⟨hs, h, hp, hh⟩, _, _, _, _, rfl⟩)))
  | succ m ih =>
    intro i hs H hm h hp hh hord
    have hi : i < ps.length := by omega
    obtain ⟨q, hq⟩ : ∃ q, ps[i]? = some q := ⟨ps[i], List.getElem?_eq_getElem hi⟩
    have hqm : q ∈ ps := List.mem_of_getElem? hq
    have hqok := hok q hqm
    have hql := hl q hqm
    have htk : ps.take (i + 1) = ps.take i ++ [q] := by rw [List.take_add_one, hq]; rfl
    have hti : (ps.take i).length = i := by rw [List.length_take]; omega
    have hlen := hp.length_eq
    have hll := headL_len (ps.take i) 0
    have hfull : ∀ x ∈ hs, full x := fun x hx => headL_full _ _ x (hp.mem_iff.1 hx)
    obtain ⟨E, hE⟩ := order_spec (Ls.rows hqok) (by omega) H []
    have h2 := h.app E
    have hnext : ∀ hs2 H2, HS H0 H2 idv hs2 → hs2.Perm (hs ++ headOne q i) → HeapN hs2 hs2.length → orderP q.l = true → L Try.prog K0 (K0.vars 22) 88 c22a [(4, .ptr idv 0), (10, .sl 22 idl 0 ps.length), (11, .int .i64 (ps.length : Nat)), (12, .int .i64 ((i + 1 : Nat) : Int))] H2 [] []
      fun e env H' sl cl => sl = [] ∧ cl = [] ∧ Pf H0 H' ∧ ((e = .ret ∧ (∃ q ∈ ps, orderP q.l = false) ∧ env = [(2, .nils), (3, .int .i64 2)]) ∨ (e = .exit 0 ∧ (∀ q ∈ ps, orderP q.l = true) ∧ (∃ hs', HS H0 H' idv hs' ∧ hs'.Perm (headL ps 0) ∧ HeapN hs' hs'.length) ∧ ∃ v10 v11 v12 v13, env = [(4, .ptr idv 0), (10, v10), (11, v11), (12, v12), (13, v13)])) := by
      intro hs2 H2 g1 g2 g3 g4
      refine ih (i + 1) hs2 H2 (by omega) g1 ?_ g3 ?_
      · rw [htk, headL_snoc, hti, Nat.zero_add]
        exact g2.trans (hp.append_right _)
      · rw [htk]
        intro x hx
        rcases List.mem_append.1 hx with hx | hx
        · exact hord x hx
        · rw [List.mem_singleton] at hx; rw [hx]; exact g4
    obtain ⟨ql, qv⟩ := q
    refine L_round ?_
    cases qv with
    | none =>
      obtain rfl : ql = [] := hqok rfl
      refine And.intro (fun _ => ?_) (fun h => by
        exfalso
        have h := dec_false (p := (i : Int) < (ps.length : Nat)) h
        omega)
      refine Exists.intro _ (And.intro (idx_ls hi) (Exists.intro _ (And.intro (h.1 idl _ hid) (wRd_ls (get_ls hq) ?_))))
      refine And.intro rfl (Exists.intro _ (Exists.intro _ (Exists.intro _ (And.intro hE ?_))))
      refine And.intro (fun h => by cases h) (fun _ => ?_)
      refine And.intro (fun h => by cases h) (fun _ => ?_)
      refine Exists.intro (.int .i64 ((i + 1 : Nat) : Int)) (And.intro (i64_eq (by omega) (by omega) (by omega)) ?_)
      exact hnext hs _ h2 (by show hs.Perm (hs ++ []); rw [List.append_nil]) hh rfl
    | some qs =>
      refine And.intro (fun _ => ?_) (fun h => by
        exfalso
        have h := dec_false (p := (i : Int) < (ps.length : Nat)) h
        omega)
      refine Exists.intro _ (And.intro (idx_ls hi) (Exists.intro _ (And.intro (h.1 idl _ hid) (wRd_ls (get_ls hq) ?_))))
      refine And.intro rfl (Exists.intro _ (Exists.intro _ (Exists.intro _ (And.intro hE ?_))))
      cases ho : orderP ql with
      | false =>
        refine And.intro (fun _ => ?_) (fun h => by cases h)
        exact And.intro rfl (And.intro rfl (And.intro h2.1 (.inl ⟨rfl, ⟨_, hqm, ho⟩, rfl⟩)))
      | true =>
        refine And.intro (fun h => by cases h) (fun _ => ?_)
        cases ql with
        | nil =>
          refine And.intro (fun h => by cases h) (fun _ => ?_)
          refine Exists.intro (.int .i64 ((i + 1 : Nat) : Int)) (And.intro (i64_eq (by omega) (by omega) (by omega)) ?_)
          exact hnext hs _ h2 (by show hs.Perm (hs ++ []); rw [List.append_nil]) hh rfl
        | cons r rs =>
          refine And.intro (fun _ => ?_) (fun h => by
            exfalso
            have h := dec_false (p := (((r :: rs).map Row.enc).length : Int) > 0) h
            rw [List.length_map, List.length_cons] at h
            omega)
          obtain ⟨H3, hs3, c3, g3, p3, q3⟩ := hpush_at h2 hfull hh (by omega) ⟨r :: rs, qs, (i : Int)⟩ (by intro e; cases e)
          refine And.intro rfl (Exists.intro _ (Exists.intro _ (Exists.intro _ (And.intro c3 ?_))))
          refine Exists.intro (.int .i64 ((i + 1 : Nat) : Int)) (And.intro (i64_eq (by omega) (by omega) (by omega)) ?_)
          exact hnext hs3 _ g3 p3 q3 ho
theorem mergeS_spec {Inv : List Hd → List Row → Prop} (hI : Keeps Inv) {ps : List Ls} (hok : ∀ q ∈ ps, q.ok) (hps : ps.length < 100000) (hl : ∀ q ∈ ps, q.l.length < 1048576) (ht : total ps < 1000000) (h0 : (∀ q ∈ ps, orderP q.l = true) → Inv (headL ps 0) [])
    {H : Hp} {idl : Nat} (hid : H[idl]? = some (some ⟨22, ps.map Ls.av⟩)) : ∃ x E, mergeR Inv ps x ∧ CallsA Try.prog K0 22 [.sl 22 idl 0 ps.length] H [] x (H ++ E) [] := by
  have hs0 : HS H (H ++ [some (Blk.mk 57 [.nils])]) H.length [] := ⟨(Pf.refl H).app _, Nat.le_refl _, .inl ⟨rfl, get_last _ _⟩⟩
  have hp0 : ([] : List Hd).Perm (headL (ps.take 0) 0) := by rw [List.take_zero]; exact List.Perm.refl _
  have hh0 : HeapN [] ([] : List Hd).length := fun k a b h1 h2 => absurd h2 (Nat.not_lt_zero _)
  obtain ⟨x, H', cells', ⟨h1, ⟨E, rfl⟩, rfl⟩, h2⟩ := calls_post (P := Try.prog) (K := K0) (f := 22) (args := [.sl 22 idl 0 ps.length]) (H := H) (cells := []) (R := fun x H1 cl => mergeR Inv ps x ∧ More H H1 ∧ cl = []) Try.func22 rfl rfl rfl (by
    refine Exists.intro _ (And.intro rfl (Exists.intro _ (And.intro rfl ?_)))
    refine L_mono (headsS_loop idl ps hok hps hl H hid H.length ps.length 0 [] (H ++ [some (Blk.mk 57 [.nils])]) rfl hs0 hp0 hh0 (fun q hq => by rw [List.take_zero] at hq; cases hq)) ?_
    rintro e env H' sl cl ⟨rfl, rfl, hpf, h⟩
    rcases h with ⟨rfl, hbad, rfl⟩ | ⟨rfl, hall, ⟨hs, g1, g2, g3⟩, v10, v11, v12, v13, rfl⟩
    · exact Exists.intro _ (And.intro rfl (And.intro (.inl ⟨hbad, rfl⟩) (And.intro hpf.more rfl)))
    · have hr := rows_perm g2
      rw [headL_rows] at hr
      have hl2 := g2.length_eq
      have hl3 := headL_len ps 0
      refine L_mono (merge_loop hI H H.length (rows hs) hs [] H' rfl (by simp only [List.length_nil]; omega) (by omega) g1 (fun x hx => headL_full _ _ x (g2.mem_iff.1 hx)) g3 (hI.perm (headL ps 0) hs [] g2 (h0 hall))) ?_
      rintro e env H2 sl cl ⟨rfl, rfl, hpf2, out', rfl, hinv, v4, v32, rfl⟩
      cases out' with
      | nil => exact Exists.intro _ (And.intro rfl (And.intro (.inr ⟨hall, [], hinv, rfl⟩) (And.intro hpf2.more rfl)))
      | cons o os => exact Exists.intro _ (And.intro rfl (And.intro (.inr ⟨hall, o :: os, hinv, rfl⟩) (And.intro hpf2.more rfl))))
  exact ⟨x, E, h1, h2⟩
theorem madeS_spec {ps : List Ls} (hok : ∀ q ∈ ps, q.ok) (hps : ps.length < 100000) (hl : ∀ q ∈ ps, q.l.length < 1048576) (ht : total ps < 1000000) {H : Hp} {idl : Nat} (hid : H[idl]? = some (some ⟨22, ps.map Ls.av⟩)) :
    ∃ y E, madeR ps y ∧ CallsA Try.prog K0 22 [.sl 22 idl 0 ps.length] H [] y (H ++ E) [] := by
  obtain ⟨y, E, hy, hE⟩ := mergeS_spec (keepsI (ps.map Ls.l)) hok hps hl ht (fun _ _ => minv_start ps) hid
  refine ⟨y, E, ?_, hE⟩
  rcases hy with hy | ⟨h1, out, h2, h3⟩
  · exact .inl hy
  · exact .inr ⟨h1, out, minv_end (ords_of h1) (h2 (ords_of h1)), h3⟩
theorem k0_up : ShortUp K0 := by
  intro f g hg args H own own2 x H' own' h s
  have hg : idle 11 true f = some g := hg
  unfold idle at hg
  split at hg
  · injection hg with hg
    subst hg
    simp only at h ⊢
    split at h
    · injection h with h; injection h with h1 h2; injection h2 with h2 h3; subst h1 h2 h3; exact ⟨own2, rfl, s⟩
    · cases h
  · cases hg
end Go.Proofs.Ytnajopkaepjncaa

/- Rows that are parted into lists are made one again as they were: the walk through the law's own loops. -/
namespace Go.Proofs.Ytnajopkaepjncaa
open Am
set_option linter.unusedVariables false
set_option linter.unusedSimpArgs false
set_option maxRecDepth 8000

theorem mem_cf {A : Cl} {x p : Nat × Nat} (q : Nat × Nat → Prop) [DecidablePred q] : p ∈ x :: A.filter (fun p => !(decide (q p))) ↔ p = x ∨ (p ∈ A ∧ ¬ q p) := by
  rw [List.mem_cons, List.mem_filter, Bool.not_eq_true', decide_eq_false_iff_not]
def IsInts (x : AV) (ws : List Int) : Prop := (x = .nils ∧ ws = []) ∨ ∃ sp, x = .lst 3 (ws.map (AV.int .i64)) sp
def encP (r : List Row) : AV := built 39 (r.map Row.enc)
theorem encP_one (r : List Row) : (encP r).isOne = true := by cases r <;> rfl
theorem get_int {ws : List Int} {i : Nat} {w : Int} (h : ws[i]? = some w) : (ws.map (AV.int .i64))[i]? = some (.int .i64 w) := by rw [List.getElem?_map, h]; rfl

noncomputable abbrev c8a : Code := at_ Try.f8 [true, true, true, true, true, false, true, false, false]
noncomputable abbrev c8b : Code := at_ Try.f8 [true, true, true, true, true, true, false, true, false, false]
noncomputable abbrev c8c : Code := at_ Try.f8 [true, true, true, true, true, true, true, false, true, false, false]

/-- Five lists without rows, as they are made: none yet, or they lie in memory. -/
def Made5 (H0 H : Hp) (i : Nat) (v : AV) : Prop := (i = 0 ∧ v = .nils) ∨ (0 < i ∧ ∃ id, H0.length ≤ id ∧ v = .sl 22 id 0 i ∧ H[id]? = some (some ⟨22, List.replicate i .nils⟩))

theorem none_loop00  (H0 : Hp) : ∀ (m i : Nat) (v : AV) (H : Hp), 5 - i = m → i ≤ 5 → Pf H0 H → Made5 H0 H i v →
    L Try.prog K0 (K0.vars 8) 113 c8a [(0, .nils), (1, .nils), (7, v), (8, .nils), (9, .int .i64 (i : Int))] H [] []
      fun e env H' sl cl => sl = [] ∧ cl = [] ∧ e = .exit 0 ∧ Pf H0 H' ∧ ∃ id v9 v34, H0.length ≤ id ∧ H'[id]? = some (some ⟨22, List.replicate 5 .nils⟩) ∧ env = [(0, .nils), (1, .nils), (7, .sl 22 id 0 5), (8, .nils), (9, v9), (34, v34)] := by
  intro m
  induction m with
  | zero =>
    intro i v H hm hi hp hv
    obtain rfl : i = 5 := by omega
    rcases hv with ⟨h, _⟩ | ⟨_, id, h1, rfl, h2⟩
    · cases h
    refine L_round ?_
    refine And.intro (fun h => by cases h) (fun _ => ?_)
    exact And.intro rfl (And.intro rfl (And.intro rfl (And.intro hp ⟨id, _, _, h1, h2, rfl⟩)))
  | succ m ih =>
    intro i v H hm hi hp hv
    refine L_round ?_
    rcases hv with ⟨rfl, rfl⟩ | ⟨h0, id, h1, rfl, h2⟩
    · refine And.intro (fun _ => ?_) (fun h => by cases h)
      refine Exists.intro _ (And.intro rfl ?_)
      refine And.intro rfl (And.intro (Nat.succ_pos _) (And.intro (Nat.le_of_ble_eq_true rfl) (And.intro (Nat.le_of_ble_eq_true rfl) (And.intro (Nat.le_of_ble_eq_true rfl) (And.intro rfl ?_)))))
      refine Exists.intro H.length (And.intro rfl (Exists.intro (H ++ [some ⟨22, [.nils]⟩]) (And.intro rfl ?_)))
      refine Exists.intro (.int .i64 ((0 + 1 : Nat) : Int)) (And.intro (i64_eq (by omega) (by omega) (by omega)) ?_)
      exact ih 1 (.sl 22 H.length 0 1) (H ++ [some ⟨22, [.nils]⟩]) (by omega) (by omega) (hp.app _) (.inr ⟨Nat.succ_pos _, H.length, hp.len, rfl, get_last _ _⟩)
    · refine And.intro (fun _ => ?_) (fun h => by
        exfalso
        have h := dec_false (p := (i : Int) < 5) h
        omega)
      refine Exists.intro [.nils] (And.intro rfl ?_)
      refine Exists.intro _ (And.intro h2 ?_)
      have hlen : (List.replicate i AV.nils).length = i := List.length_replicate
      refine And.intro rfl (And.intro rfl (And.intro rfl (And.intro rfl (And.intro ?_ (And.intro ?_ (And.intro ?_ (And.intro ?_ (And.intro (Nat.le_of_ble_eq_true rfl) (And.intro rfl ?_)))))))))
      · rw [hlen]; exact h0
      · rw [hlen]; show i * 1 ≤ i; omega
      · show (i + 1) * 24 ≤ 140737488355328; omega
      · show i + 1 ≤ 140737488355328; omega
      have hcs : (List.replicate i AV.nils).take (i * 1) ++ flat [.nils] = List.replicate (i + 1) AV.nils := by
        rw [List.take_of_length_le (by rw [hlen]; omega)]
        show List.replicate i AV.nils ++ [AV.nils] = _
        rw [List.replicate_succ']
      refine Exists.intro (H.set id (some ⟨22, []⟩)).length (And.intro (List.length_set).symm ?_)
      refine Exists.intro (H.set id (some ⟨22, []⟩) ++ [some ⟨22, List.replicate (i + 1) AV.nils⟩]) (And.intro (by rw [← hcs]; rfl) ?_)
      refine Exists.intro (i + 1) (And.intro rfl ?_)
      refine Exists.intro (.int .i64 ((i + 1 : Nat) : Int)) (And.intro (i64_eq (by omega) (by omega) (by omega)) ?_)
      have hp2 : Pf H0 (H.set id (some ⟨22, []⟩)) := hp.set h1 _
      exact ih (i + 1) (.sl 22 (H.set id (some ⟨22, []⟩)).length 0 (i + 1)) _ (by omega) (by omega) (hp2.app _) (.inr ⟨Nat.succ_pos _, _, hp2.len, rfl, get_last _ _⟩)


theorem none_loop01 (zs sz : List AV)  (H0 : Hp) : ∀ (m i : Nat) (v : AV) (H : Hp), 5 - i = m → i ≤ 5 → Pf H0 H → Made5 H0 H i v →
    L Try.prog K0 (K0.vars 8) 113 c8a [(0, .nils), (1, .lst 3 zs sz), (7, v), (8, .nils), (9, .int .i64 (i : Int))] H [] []
      fun e env H' sl cl => sl = [] ∧ cl = [] ∧ e = .exit 0 ∧ Pf H0 H' ∧ ∃ id v9 v34, H0.length ≤ id ∧ H'[id]? = some (some ⟨22, List.replicate 5 .nils⟩) ∧ env = [(0, .nils), (1, .lst 3 zs sz), (7, .sl 22 id 0 5), (8, .nils), (9, v9), (34, v34)] := by
  intro m
  induction m with
  | zero =>
    intro i v H hm hi hp hv
    obtain rfl : i = 5 := by omega
    rcases hv with ⟨h, _⟩ | ⟨_, id, h1, rfl, h2⟩
    · cases h
    refine L_round ?_
    refine And.intro (fun h => by cases h) (fun _ => ?_)
    exact And.intro rfl (And.intro rfl (And.intro rfl (And.intro hp ⟨id, _, _, h1, h2, rfl⟩)))
  | succ m ih =>
    intro i v H hm hi hp hv
    refine L_round ?_
    rcases hv with ⟨rfl, rfl⟩ | ⟨h0, id, h1, rfl, h2⟩
    · refine And.intro (fun _ => ?_) (fun h => by cases h)
      refine Exists.intro _ (And.intro rfl ?_)
      refine And.intro rfl (And.intro (Nat.succ_pos _) (And.intro (Nat.le_of_ble_eq_true rfl) (And.intro (Nat.le_of_ble_eq_true rfl) (And.intro (Nat.le_of_ble_eq_true rfl) (And.intro rfl ?_)))))
      refine Exists.intro H.length (And.intro rfl (Exists.intro (H ++ [some ⟨22, [.nils]⟩]) (And.intro rfl ?_)))
      refine Exists.intro (.int .i64 ((0 + 1 : Nat) : Int)) (And.intro (i64_eq (by omega) (by omega) (by omega)) ?_)
      exact ih 1 (.sl 22 H.length 0 1) (H ++ [some ⟨22, [.nils]⟩]) (by omega) (by omega) (hp.app _) (.inr ⟨Nat.succ_pos _, H.length, hp.len, rfl, get_last _ _⟩)
    · refine And.intro (fun _ => ?_) (fun h => by
        exfalso
        have h := dec_false (p := (i : Int) < 5) h
        omega)
      refine Exists.intro [.nils] (And.intro rfl ?_)
      refine Exists.intro _ (And.intro h2 ?_)
      have hlen : (List.replicate i AV.nils).length = i := List.length_replicate
      refine And.intro rfl (And.intro rfl (And.intro rfl (And.intro rfl (And.intro ?_ (And.intro ?_ (And.intro ?_ (And.intro ?_ (And.intro (Nat.le_of_ble_eq_true rfl) (And.intro rfl ?_)))))))))
      · rw [hlen]; exact h0
      · rw [hlen]; show i * 1 ≤ i; omega
      · show (i + 1) * 24 ≤ 140737488355328; omega
      · show i + 1 ≤ 140737488355328; omega
      have hcs : (List.replicate i AV.nils).take (i * 1) ++ flat [.nils] = List.replicate (i + 1) AV.nils := by
        rw [List.take_of_length_le (by rw [hlen]; omega)]
        show List.replicate i AV.nils ++ [AV.nils] = _
        rw [List.replicate_succ']
      refine Exists.intro (H.set id (some ⟨22, []⟩)).length (And.intro (List.length_set).symm ?_)
      refine Exists.intro (H.set id (some ⟨22, []⟩) ++ [some ⟨22, List.replicate (i + 1) AV.nils⟩]) (And.intro (by rw [← hcs]; rfl) ?_)
      refine Exists.intro (i + 1) (And.intro rfl ?_)
      refine Exists.intro (.int .i64 ((i + 1 : Nat) : Int)) (And.intro (i64_eq (by omega) (by omega) (by omega)) ?_)
      have hp2 : Pf H0 (H.set id (some ⟨22, []⟩)) := hp.set h1 _
      exact ih (i + 1) (.sl 22 (H.set id (some ⟨22, []⟩)).length 0 (i + 1)) _ (by omega) (by omega) (hp2.app _) (.inr ⟨Nat.succ_pos _, _, hp2.len, rfl, get_last _ _⟩)


theorem none_loop10 (xs sp : List AV)  (H0 : Hp) : ∀ (m i : Nat) (v : AV) (H : Hp), 5 - i = m → i ≤ 5 → Pf H0 H → Made5 H0 H i v →
    L Try.prog K0 (K0.vars 8) 113 c8a [(0, .lst 39 xs sp), (1, .nils), (7, v), (8, .nils), (9, .int .i64 (i : Int))] H [] []
      fun e env H' sl cl => sl = [] ∧ cl = [] ∧ e = .exit 0 ∧ Pf H0 H' ∧ ∃ id v9 v34, H0.length ≤ id ∧ H'[id]? = some (some ⟨22, List.replicate 5 .nils⟩) ∧ env = [(0, .lst 39 xs sp), (1, .nils), (7, .sl 22 id 0 5), (8, .nils), (9, v9), (34, v34)] := by
  intro m
  induction m with
  | zero =>
    intro i v H hm hi hp hv
    obtain rfl : i = 5 := by omega
    rcases hv with ⟨h, _⟩ | ⟨_, id, h1, rfl, h2⟩
    · cases h
    refine L_round ?_
    refine And.intro (fun h => by cases h) (fun _ => ?_)
    exact And.intro rfl (And.intro rfl (And.intro rfl (And.intro hp ⟨id, _, _, h1, h2, rfl⟩)))
  | succ m ih =>
    intro i v H hm hi hp hv
    refine L_round ?_
    rcases hv with ⟨rfl, rfl⟩ | ⟨h0, id, h1, rfl, h2⟩
    · refine And.intro (fun _ => ?_) (fun h => by cases h)
      refine Exists.intro _ (And.intro rfl ?_)
      refine And.intro rfl (And.intro (Nat.succ_pos _) (And.intro (Nat.le_of_ble_eq_true rfl) (And.intro (Nat.le_of_ble_eq_true rfl) (And.intro (Nat.le_of_ble_eq_true rfl) (And.intro rfl ?_)))))
      refine Exists.intro H.length (And.intro rfl (Exists.intro (H ++ [some ⟨22, [.nils]⟩]) (And.intro rfl ?_)))
      refine Exists.intro (.int .i64 ((0 + 1 : Nat) : Int)) (And.intro (i64_eq (by omega) (by omega) (by omega)) ?_)
      exact ih 1 (.sl 22 H.length 0 1) (H ++ [some ⟨22, [.nils]⟩]) (by omega) (by omega) (hp.app _) (.inr ⟨Nat.succ_pos _, H.length, hp.len, rfl, get_last _ _⟩)
    · refine And.intro (fun _ => ?_) (fun h => by
        exfalso
        have h := dec_false (p := (i : Int) < 5) h
        omega)
      refine Exists.intro [.nils] (And.intro rfl ?_)
      refine Exists.intro _ (And.intro h2 ?_)
      have hlen : (List.replicate i AV.nils).length = i := List.length_replicate
      refine And.intro rfl (And.intro rfl (And.intro rfl (And.intro rfl (And.intro ?_ (And.intro ?_ (And.intro ?_ (And.intro ?_ (And.intro (Nat.le_of_ble_eq_true rfl) (And.intro rfl ?_)))))))))
      · rw [hlen]; exact h0
      · rw [hlen]; show i * 1 ≤ i; omega
      · show (i + 1) * 24 ≤ 140737488355328; omega
      · show i + 1 ≤ 140737488355328; omega
      have hcs : (List.replicate i AV.nils).take (i * 1) ++ flat [.nils] = List.replicate (i + 1) AV.nils := by
        rw [List.take_of_length_le (by rw [hlen]; omega)]
        show List.replicate i AV.nils ++ [AV.nils] = _
        rw [List.replicate_succ']
      refine Exists.intro (H.set id (some ⟨22, []⟩)).length (And.intro (List.length_set).symm ?_)
      refine Exists.intro (H.set id (some ⟨22, []⟩) ++ [some ⟨22, List.replicate (i + 1) AV.nils⟩]) (And.intro (by rw [← hcs]; rfl) ?_)
      refine Exists.intro (i + 1) (And.intro rfl ?_)
      refine Exists.intro (.int .i64 ((i + 1 : Nat) : Int)) (And.intro (i64_eq (by omega) (by omega) (by omega)) ?_)
      have hp2 : Pf H0 (H.set id (some ⟨22, []⟩)) := hp.set h1 _
      exact ih (i + 1) (.sl 22 (H.set id (some ⟨22, []⟩)).length 0 (i + 1)) _ (by omega) (by omega) (hp2.app _) (.inr ⟨Nat.succ_pos _, _, hp2.len, rfl, get_last _ _⟩)


theorem none_loop11 (xs sp : List AV) (zs sz : List AV)  (H0 : Hp) : ∀ (m i : Nat) (v : AV) (H : Hp), 5 - i = m → i ≤ 5 → Pf H0 H → Made5 H0 H i v →
    L Try.prog K0 (K0.vars 8) 113 c8a [(0, .lst 39 xs sp), (1, .lst 3 zs sz), (7, v), (8, .nils), (9, .int .i64 (i : Int))] H [] []
      fun e env H' sl cl => sl = [] ∧ cl = [] ∧ e = .exit 0 ∧ Pf H0 H' ∧ ∃ id v9 v34, H0.length ≤ id ∧ H'[id]? = some (some ⟨22, List.replicate 5 .nils⟩) ∧ env = [(0, .lst 39 xs sp), (1, .lst 3 zs sz), (7, .sl 22 id 0 5), (8, .nils), (9, v9), (34, v34)] := by
  intro m
  induction m with
  | zero =>
    intro i v H hm hi hp hv
    obtain rfl : i = 5 := by omega
    rcases hv with ⟨h, _⟩ | ⟨_, id, h1, rfl, h2⟩
    · cases h
    refine L_round ?_
    refine And.intro (fun h => by cases h) (fun _ => ?_)
    exact And.intro rfl (And.intro rfl (And.intro rfl (And.intro hp ⟨id, _, _, h1, h2, rfl⟩)))
  | succ m ih =>
    intro i v H hm hi hp hv
    refine L_round ?_
    rcases hv with ⟨rfl, rfl⟩ | ⟨h0, id, h1, rfl, h2⟩
    · refine And.intro (fun _ => ?_) (fun h => by cases h)
      refine Exists.intro _ (And.intro rfl ?_)
      refine And.intro rfl (And.intro (Nat.succ_pos _) (And.intro (Nat.le_of_ble_eq_true rfl) (And.intro (Nat.le_of_ble_eq_true rfl) (And.intro (Nat.le_of_ble_eq_true rfl) (And.intro rfl ?_)))))
      refine Exists.intro H.length (And.intro rfl (Exists.intro (H ++ [some ⟨22, [.nils]⟩]) (And.intro rfl ?_)))
      refine Exists.intro (.int .i64 ((0 + 1 : Nat) : Int)) (And.intro (i64_eq (by omega) (by omega) (by omega)) ?_)
      exact ih 1 (.sl 22 H.length 0 1) (H ++ [some ⟨22, [.nils]⟩]) (by omega) (by omega) (hp.app _) (.inr ⟨Nat.succ_pos _, H.length, hp.len, rfl, get_last _ _⟩)
    · refine And.intro (fun _ => ?_) (fun h => by
        exfalso
        have h := dec_false (p := (i : Int) < 5) h
        omega)
      refine Exists.intro [.nils] (And.intro rfl ?_)
      refine Exists.intro _ (And.intro h2 ?_)
      have hlen : (List.replicate i AV.nils).length = i := List.length_replicate
      refine And.intro rfl (And.intro rfl (And.intro rfl (And.intro rfl (And.intro ?_ (And.intro ?_ (And.intro ?_ (And.intro ?_ (And.intro (Nat.le_of_ble_eq_true rfl) (And.intro rfl ?_)))))))))
      · rw [hlen]; exact h0
      · rw [hlen]; show i * 1 ≤ i; omega
      · show (i + 1) * 24 ≤ 140737488355328; omega
      · show i + 1 ≤ 140737488355328; omega
      have hcs : (List.replicate i AV.nils).take (i * 1) ++ flat [.nils] = List.replicate (i + 1) AV.nils := by
        rw [List.take_of_length_le (by rw [hlen]; omega)]
        show List.replicate i AV.nils ++ [AV.nils] = _
        rw [List.replicate_succ']
      refine Exists.intro (H.set id (some ⟨22, []⟩)).length (And.intro (List.length_set).symm ?_)
      refine Exists.intro (H.set id (some ⟨22, []⟩) ++ [some ⟨22, List.replicate (i + 1) AV.nils⟩]) (And.intro (by rw [← hcs]; rfl) ?_)
      refine Exists.intro (i + 1) (And.intro rfl ?_)
      refine Exists.intro (.int .i64 ((i + 1 : Nat) : Int)) (And.intro (i64_eq (by omega) (by omega) (by omega)) ?_)
      have hp2 : Pf H0 (H.set id (some ⟨22, []⟩)) := hp.set h1 _
      exact ih (i + 1) (.sl 22 (H.set id (some ⟨22, []⟩)).length 0 (i + 1)) _ (by omega) (by omega) (hp2.app _) (.inr ⟨Nat.succ_pos _, _, hp2.len, rfl, get_last _ _⟩)


/-- What the lists hold behind the first rows. -/
structure PInv (l : List Row) (i : Nat) (ps : List (List Row)) : Prop where
  len : ps.length = 5
  sub : ∀ q ∈ ps, q.Sublist (l.take i)
  mem : ∀ r, r ∈ l.take i → ∃ q ∈ ps, r ∈ q
theorem PInv.step {l : List Row} {i : Nat} {ps : List (List Row)} (h : PInv l i ps) {r : Row} (hr : l[i]? = some r) {j : Nat} {q : List Row} (hq : ps[j]? = some q) : PInv l (i + 1) (ps.set j (q ++ [r])) := by
  have htk : l.take (i + 1) = l.take i ++ [r] := by rw [List.take_add_one, hr]; rfl
  have hj : j < ps.length := (List.getElem?_eq_some_iff.1 hq).1
  refine ⟨by rw [List.length_set]; exact h.len, fun p hp => ?_, fun s hs => ?_⟩
  · rw [htk]
    rcases List.mem_or_eq_of_mem_set hp with hp | rfl
    · exact (h.sub p hp).trans (List.sublist_append_left _ _)
    · exact (h.sub q (List.mem_of_getElem? hq)).append (List.Sublist.refl _)
  · rw [htk, List.mem_append] at hs
    have hnew : q ++ [r] ∈ ps.set j (q ++ [r]) := List.mem_of_getElem? (i := j) (by rw [List.getElem?_set_self hj])
    rcases hs with hs | hs
    · obtain ⟨p, hp, hsp⟩ := h.mem s hs
      obtain ⟨k, hk⟩ := List.mem_iff_getElem?.1 hp
      by_cases hkj : k = j
      · subst hkj
        rw [hq] at hk; injection hk with hk; subst hk
        exact ⟨_, hnew, List.mem_append_left _ hsp⟩
      · exact ⟨p, List.mem_of_getElem? (i := k) (by rw [List.getElem?_set_ne (Ne.symm hkj)]; exact hk), hsp⟩
    · exact ⟨_, hnew, List.mem_append_right _ hs⟩
theorem splice_one {cs : List AV} {j : Nat} (v : AV) (h : j < cs.length) : splice cs j [v] = cs.set j v := by
  unfold splice
  rw [List.set_eq_take_append_cons_drop, if_pos h]
  simp
theorem get_part {ps : List (List Row)} {j : Nat} {q : List Row} (h : ps[j]? = some q) : (ps.map encP)[j]? = some (encP q) := by rw [List.getElem?_map, h]; rfl
/-- The ends that are owned. -/
def Ends (id : Nat) (ps : List (List Row)) (cl : Cl) : Prop := ∀ p, p ∈ cl ↔ p.1 = id ∧ ∃ r rs, ps[p.2]? = some (r :: rs)
theorem Ends.step0 {id : Nat} {ps : List (List Row)} {cl cs : Cl} (h : Ends id ps cl) {j : Nat} {r : Row} (hq : ps[j]? = some []) (hcs : ∀ p, p ∈ cs ↔ p = (id, j) ∨ (p ∈ cl ∧ ¬ (p.1 = id ∧ j ≤ p.2 ∧ p.2 < j + 1))) : Ends id (ps.set j ([] ++ [r])) cs := by
  have hj : j < ps.length := (List.getElem?_eq_some_iff.1 hq).1
  rintro ⟨a, b⟩
  rw [hcs, h]
  constructor
  · rintro (e | ⟨⟨e, s, ss, hs⟩, hn⟩)
    · injection e with e1 e2
      subst e1 e2
      exact ⟨rfl, r, [], by rw [List.getElem?_set_self hj]; rfl⟩
    · refine ⟨e, s, ss, ?_⟩
      have : b ≠ j := fun e2 => hn ⟨e, by simp only at *; omega, by simp only at *; omega⟩
      simp only at *
      rw [List.getElem?_set_ne (Ne.symm this)]; exact hs
  · rintro ⟨e, s, ss, hs⟩
    simp only at *
    by_cases hb : b = j
    · exact .inl (by rw [e, hb])
    · rw [List.getElem?_set_ne (Ne.symm hb)] at hs
      exact .inr ⟨⟨e, s, ss, hs⟩, fun hn => hb (by omega)⟩
theorem Ends.step1 {id : Nat} {ps : List (List Row)} {cl cs ds : Cl} (h : Ends id ps cl) {j : Nat} {r a : Row} {q : List Row} (hq : ps[j]? = some (a :: q)) (hds : ∀ p, p ∈ ds ↔ p ∈ cl ∧ p ≠ (id, j)) (hcs : ∀ p, p ∈ cs ↔ p = (id, j) ∨ (p ∈ ds ∧ ¬ (p.1 = id ∧ j ≤ p.2 ∧ p.2 < j + 1))) : Ends id (ps.set j ((a :: q) ++ [r])) cs := by
  have hj : j < ps.length := (List.getElem?_eq_some_iff.1 hq).1
  rintro ⟨c, b⟩
  rw [hcs, hds, h]
  constructor
  · rintro (e | ⟨⟨⟨e, s, ss, hs⟩, _⟩, hn⟩)
    · injection e with e1 e2
      subst e1 e2
      exact ⟨rfl, a, q ++ [r], by rw [List.getElem?_set_self hj]; rfl⟩
    · refine ⟨e, s, ss, ?_⟩
      have : b ≠ j := fun e2 => hn ⟨e, by simp only at *; omega, by simp only at *; omega⟩
      simp only at *
      rw [List.getElem?_set_ne (Ne.symm this)]; exact hs
  · rintro ⟨e, s, ss, hs⟩
    simp only at *
    by_cases hb : b = j
    · exact .inl (by rw [e, hb])
    · rw [List.getElem?_set_ne (Ne.symm hb)] at hs
      exact .inr ⟨⟨⟨e, s, ss, hs⟩, fun he => hb (by injection he)⟩, fun hn => hb (by omega)⟩

theorem put_loop (l : List Row) (sp : List AV) (hl : l.length ≤ 100) {z : AV} {ws : List Int} (hz : IsInts z ws) (H0 : Hp) (id : Nat) (hid : H0.length ≤ id) : ∀ (m i : Nat) (ps : List (List Row)) (H : Hp) (cl : Cl), l.length - i = m → i ≤ l.length → Pf H0 H → PInv l i ps → H[id]? = some (some ⟨22, ps.map encP⟩) → Ends id ps cl →
    L Try.prog K0 (K0.vars 8) 113 c8b [(0, .lst 39 (l.map Row.enc) sp), (1, z), (7, .sl 22 id 0 5), (8, .nils), (10, .int .i64 (i : Int))] H [] cl
      fun e env H' sl cl' => sl = [] ∧ e = .exit 2 ∧ Pf H0 H' ∧ ∃ ps' v10 v43, PInv l l.length ps' ∧ H'[id]? = some (some ⟨22, ps'.map encP⟩) ∧ env = [(0, .lst 39 (l.map Row.enc) sp), (1, z), (7, .sl 22 id 0 5), (8, .nils), (10, v10), (43, v43)] := by
  intro m
  induction m with
  | zero =>
    intro i ps H cl hm hi hp hps hb he
    obtain rfl : i = l.length := by omega
    rcases hz with ⟨rfl, rfl⟩ | ⟨sw, rfl⟩
    · refine L_round ?_
      refine And.intro (fun h => ?_) (fun _ => ?_)
      · exfalso
        have h := dec_true (p := (l.length : Int) < ((l.map Row.enc).length : Nat)) h
        rw [List.length_map] at h
        omega
      · exact And.intro rfl (And.intro rfl (And.intro hp ⟨ps, _, _, hps, hb, rfl⟩))
    · refine L_round ?_
      refine And.intro (fun h => ?_) (fun _ => ?_)
      · exfalso
        have h := dec_true (p := (l.length : Int) < ((l.map Row.enc).length : Nat)) h
        rw [List.length_map] at h
        omega
      · exact And.intro rfl (And.intro rfl (And.intro hp ⟨ps, _, _, hps, hb, rfl⟩))
  | succ m ih =>
    intro i ps H cl hm hi hp hps hb he
    obtain ⟨r, hr⟩ : ∃ r, l[i]? = some r := ⟨l[i], List.getElem?_eq_getElem (by omega)⟩
    have hnext : ∀ (j : Nat) (q : List Row) (cs : Cl), ps[j]? = some q → Ends id (ps.set j (q ++ [r])) cs →
        L Try.prog K0 (K0.vars 8) 113 c8b [(0, .lst 39 (l.map Row.enc) sp), (1, z), (7, .sl 22 id 0 5), (8, .nils), (10, .int .i64 ((i + 1 : Nat) : Int))] (H.set id (some ⟨22, (ps.map encP).set j (encP (q ++ [r]))⟩)) [] cs
          fun e env H' sl cl' => sl = [] ∧ e = .exit 2 ∧ Pf H0 H' ∧ ∃ ps' v10 v43, PInv l l.length ps' ∧ H'[id]? = some (some ⟨22, ps'.map encP⟩) ∧ env = [(0, .lst 39 (l.map Row.enc) sp), (1, z), (7, .sl 22 id 0 5), (8, .nils), (10, v10), (43, v43)] := by
      intro j q cs hq hcs
      have hset : (ps.map encP).set j (encP (q ++ [r])) = (ps.set j (q ++ [r])).map encP := by rw [List.map_set]
      rw [hset]
      exact ih (i + 1) (ps.set j (q ++ [r])) _ cs (by omega) (by omega) (hp.set hid _) (hps.step hr hq) (get_set_same hb _) hcs
    have hpl := hps.len
    have hml : (ps.map encP).length = ps.length := List.length_map _
    have hql : ∀ q ∈ ps, q.length ≤ 100 := fun q hq => by
      have h1 := (hps.sub q hq).length_le
      have h2 : (l.take i).length ≤ l.length := by rw [List.length_take]; omega
      omega
    rcases hz with ⟨rfl, rfl⟩ | ⟨sw, rfl⟩
    · refine L_round ?_
      refine And.intro (fun _ => ?_) (fun h => by
        exfalso
        have h := dec_false (p := (i : Int) < ((l.map Row.enc).length : Nat)) h
        rw [List.length_map] at h
        omega)
      refine And.intro (fun h => ?_) (fun _ => ?_)
      · exfalso
        have h := dec_true (p := (i : Int) < (0 : Int)) h
        omega
      refine And.intro (fun h => by cases h) (fun _ => ?_)
      obtain ⟨q, hq⟩ : ∃ q, ps[0]? = some q := ⟨ps[0]'(by omega), List.getElem?_eq_getElem (by omega)⟩
      have hqm := hql q (List.mem_of_getElem? hq)
      cases q with
      | nil =>
        refine Exists.intro _ (And.intro rfl ?_)
        refine Exists.intro _ (And.intro (idx_ls (Nat.succ_pos 4)) ?_)
        refine Exists.intro _ (And.intro hb (rd_ls (encP_one []) (get_part hq) ?_))
        refine .inr (And.intro ?_ ?_)
        · intro hmem
          obtain ⟨_, s, ss, hs⟩ := (he _).1 hmem
          simp only at hs
          rw [hq] at hs; cases hs
        refine And.intro (Int.natCast_nonneg _) (Exists.intro _ (And.intro (get_row hr) ?_))
        refine Exists.intro [r.enc] (And.intro rfl ?_)
        refine And.intro (Nat.le_of_ble_eq_true rfl) (And.intro (Nat.le_of_ble_eq_true rfl) (And.intro (Nat.le_of_ble_eq_true rfl) (And.intro rfl ?_)))
        refine Exists.intro _ (And.intro (idx_ls (Nat.succ_pos 4)) ?_)
        refine Exists.intro _ (And.intro hb ?_)
        refine And.intro rfl (And.intro (Nat.succ_pos _) (And.intro (?_ : 0 + 1 ≤ (ps.map encP).length) ?_))
        · omega
        refine Exists.intro (H.set id (some ⟨22, (ps.map encP).set 0 (encP ([] ++ [r]))⟩)) (And.intro (by rw [← splice_one _ (by omega)]; rfl) ?_)
        refine Exists.intro ((id, 0) :: cl.filter fun p => !(decide (p.1 = id ∧ 0 ≤ p.2 ∧ p.2 < 0 + 1))) (And.intro (fun p => ?_) ?_)
        · rw [List.mem_cons, List.mem_filter, Bool.not_eq_true', decide_eq_false_iff_not]; exact Iff.rfl
        refine Exists.intro (.int .i64 ((i + 1 : Nat) : Int)) (And.intro (i64_eq (by omega) (by omega) (by omega)) ?_)
        exact hnext 0 [] _ hq (he.step0 hq fun p => by rw [List.mem_cons, List.mem_filter, Bool.not_eq_true', decide_eq_false_iff_not])
      | cons a q =>
        refine Exists.intro _ (And.intro rfl ?_)
        refine Exists.intro _ (And.intro (idx_ls (Nat.succ_pos 4)) ?_)
        refine Exists.intro _ (And.intro hb (rd_ls (encP_one (a :: q)) (get_part hq) ?_))
        refine .inl (And.intro ((he (id, 0)).2 ⟨rfl, a, q, hq⟩) ?_)
        refine Exists.intro (cl.filter fun p => !(decide (p = (id, 0)))) (And.intro (fun p => by rw [List.mem_filter, Bool.not_eq_true', decide_eq_false_iff_not]) ?_)
        refine And.intro (Int.natCast_nonneg _) (Exists.intro _ (And.intro (get_row hr) ?_))
        refine Exists.intro [r.enc] (And.intro rfl ?_)
        refine And.intro rfl (And.intro rfl (And.intro (?_ : (((a :: q).map Row.enc).length + 1) * 48 ≤ 140737488355328) (And.intro (?_ : ((a :: q).map Row.enc).length + 1 ≤ 140737488355328) (And.intro (Nat.le_of_ble_eq_true rfl) (And.intro rfl (Exists.intro (((a :: q) ++ [r]).map Row.enc) (And.intro (by rw [List.map_append]; rfl) ?_)))))))
        · rw [List.length_map]; omega
        · rw [List.length_map]; omega
        refine Exists.intro _ (And.intro (idx_ls (Nat.succ_pos 4)) ?_)
        refine Exists.intro _ (And.intro hb ?_)
        refine And.intro rfl (And.intro (Nat.succ_pos _) (And.intro (?_ : 0 + 1 ≤ (ps.map encP).length) ?_))
        · omega
        refine Exists.intro (H.set id (some ⟨22, (ps.map encP).set 0 (encP ((a :: q) ++ [r]))⟩)) (And.intro (by rw [← splice_one _ (by omega)]; rfl) ?_)
        refine Exists.intro ((id, 0) :: (cl.filter fun p => !(decide (p = (id, 0)))).filter fun p => !(decide (p.1 = id ∧ 0 ≤ p.2 ∧ p.2 < 0 + 1))) (And.intro (fun p => ?_) ?_)
        · exact mem_cf fun p => p.1 = id ∧ 0 ≤ p.2 ∧ p.2 < 0 + 1
        refine Exists.intro (.int .i64 ((i + 1 : Nat) : Int)) (And.intro (i64_eq (by omega) (by omega) (by omega)) ?_)
        exact hnext 0 (a :: q) _ hq (he.step1 (ds := cl.filter fun p => !(decide (p = (id, 0)))) hq (fun p => by rw [List.mem_filter, Bool.not_eq_true', decide_eq_false_iff_not]) fun p => mem_cf fun p => p.1 = id ∧ 0 ≤ p.2 ∧ p.2 < 0 + 1)
    · by_cases hw : i < ws.length
      case neg =>
        refine L_round ?_
        refine And.intro (fun _ => ?_) (fun h => by
          exfalso
          have h := dec_false (p := (i : Int) < ((l.map Row.enc).length : Nat)) h
          rw [List.length_map] at h
          omega)
        refine And.intro (fun h => ?_) (fun _ => ?_)
        · exfalso
          have h := dec_true (p := (i : Int) < ((ws.map (AV.int .i64)).length : Nat)) h
          rw [List.length_map] at h
          omega
        refine And.intro (fun h => by cases h) (fun _ => ?_)
        obtain ⟨q, hq⟩ : ∃ q, ps[0]? = some q := ⟨ps[0]'(by omega), List.getElem?_eq_getElem (by omega)⟩
        have hqm := hql q (List.mem_of_getElem? hq)
        cases q with
        | nil =>
          refine Exists.intro _ (And.intro rfl ?_)
          refine Exists.intro _ (And.intro (idx_ls (Nat.succ_pos 4)) ?_)
          refine Exists.intro _ (And.intro hb (rd_ls (encP_one []) (get_part hq) ?_))
          refine .inr (And.intro ?_ ?_)
          · intro hmem
            obtain ⟨_, s, ss, hs⟩ := (he _).1 hmem
            simp only at hs
            rw [hq] at hs; cases hs
          refine And.intro (Int.natCast_nonneg _) (Exists.intro _ (And.intro (get_row hr) ?_))
          refine Exists.intro [r.enc] (And.intro rfl ?_)
          refine And.intro (Nat.le_of_ble_eq_true rfl) (And.intro (Nat.le_of_ble_eq_true rfl) (And.intro (Nat.le_of_ble_eq_true rfl) (And.intro rfl ?_)))
          refine Exists.intro _ (And.intro (idx_ls (Nat.succ_pos 4)) ?_)
          refine Exists.intro _ (And.intro hb ?_)
          refine And.intro rfl (And.intro (Nat.succ_pos _) (And.intro (?_ : 0 + 1 ≤ (ps.map encP).length) ?_))
          · omega
          refine Exists.intro (H.set id (some ⟨22, (ps.map encP).set 0 (encP ([] ++ [r]))⟩)) (And.intro (by rw [← splice_one _ (by omega)]; rfl) ?_)
          refine Exists.intro ((id, 0) :: cl.filter fun p => !(decide (p.1 = id ∧ 0 ≤ p.2 ∧ p.2 < 0 + 1))) (And.intro (fun p => ?_) ?_)
          · rw [List.mem_cons, List.mem_filter, Bool.not_eq_true', decide_eq_false_iff_not]; exact Iff.rfl
          refine Exists.intro (.int .i64 ((i + 1 : Nat) : Int)) (And.intro (i64_eq (by omega) (by omega) (by omega)) ?_)
          exact hnext 0 [] _ hq (he.step0 hq fun p => by rw [List.mem_cons, List.mem_filter, Bool.not_eq_true', decide_eq_false_iff_not])
        | cons a q =>
          refine Exists.intro _ (And.intro rfl ?_)
          refine Exists.intro _ (And.intro (idx_ls (Nat.succ_pos 4)) ?_)
          refine Exists.intro _ (And.intro hb (rd_ls (encP_one (a :: q)) (get_part hq) ?_))
          refine .inl (And.intro ((he (id, 0)).2 ⟨rfl, a, q, hq⟩) ?_)
          refine Exists.intro (cl.filter fun p => !(decide (p = (id, 0)))) (And.intro (fun p => by rw [List.mem_filter, Bool.not_eq_true', decide_eq_false_iff_not]) ?_)
          refine And.intro (Int.natCast_nonneg _) (Exists.intro _ (And.intro (get_row hr) ?_))
          refine Exists.intro [r.enc] (And.intro rfl ?_)
          refine And.intro rfl (And.intro rfl (And.intro (?_ : (((a :: q).map Row.enc).length + 1) * 48 ≤ 140737488355328) (And.intro (?_ : ((a :: q).map Row.enc).length + 1 ≤ 140737488355328) (And.intro (Nat.le_of_ble_eq_true rfl) (And.intro rfl (Exists.intro (((a :: q) ++ [r]).map Row.enc) (And.intro (by rw [List.map_append]; rfl) ?_)))))))
          · rw [List.length_map]; omega
          · rw [List.length_map]; omega
          refine Exists.intro _ (And.intro (idx_ls (Nat.succ_pos 4)) ?_)
          refine Exists.intro _ (And.intro hb ?_)
          refine And.intro rfl (And.intro (Nat.succ_pos _) (And.intro (?_ : 0 + 1 ≤ (ps.map encP).length) ?_))
          · omega
          refine Exists.intro (H.set id (some ⟨22, (ps.map encP).set 0 (encP ((a :: q) ++ [r]))⟩)) (And.intro (by rw [← splice_one _ (by omega)]; rfl) ?_)
          refine Exists.intro ((id, 0) :: (cl.filter fun p => !(decide (p = (id, 0)))).filter fun p => !(decide (p.1 = id ∧ 0 ≤ p.2 ∧ p.2 < 0 + 1))) (And.intro (fun p => ?_) ?_)
          · exact mem_cf fun p => p.1 = id ∧ 0 ≤ p.2 ∧ p.2 < 0 + 1
          refine Exists.intro (.int .i64 ((i + 1 : Nat) : Int)) (And.intro (i64_eq (by omega) (by omega) (by omega)) ?_)
          exact hnext 0 (a :: q) _ hq (he.step1 (ds := cl.filter fun p => !(decide (p = (id, 0)))) hq (fun p => by rw [List.mem_filter, Bool.not_eq_true', decide_eq_false_iff_not]) fun p => mem_cf fun p => p.1 = id ∧ 0 ≤ p.2 ∧ p.2 < 0 + 1)
      case pos =>
        obtain ⟨w, hwv⟩ : ∃ w, ws[i]? = some w := ⟨ws[i], List.getElem?_eq_getElem hw⟩
        have hb1 : -5 < w.tmod 5 := by
          have := Int.tmod_lt_of_pos (-w) (b := 5) (by omega)
          rw [Int.neg_tmod] at this; omega
        have hb2 : w.tmod 5 < 5 := Int.tmod_lt_of_pos w (by omega)
        by_cases hneg : w.tmod 5 < 0
        case pos =>
          obtain ⟨j, hj⟩ : ∃ j : Nat, w.tmod 5 + 5 = (j : Int) := ⟨(w.tmod 5 + 5).toNat, by omega⟩
          have hj5 : j < 5 := by omega
          refine L_round ?_
          refine And.intro (fun _ => ?_) (fun h => by
            exfalso
            have h := dec_false (p := (i : Int) < ((l.map Row.enc).length : Nat)) h
            rw [List.length_map] at h
            omega)
          refine And.intro (fun _ => ?_) (fun h => by
            exfalso
            have h := dec_false (p := (i : Int) < ((ws.map (AV.int .i64)).length : Nat)) h
            rw [List.length_map] at h
            omega)
          refine And.intro (Int.natCast_nonneg _) (Exists.intro _ (And.intro (get_int hwv) ?_))
          refine Exists.intro (.int .i64 (w.tmod 5)) (And.intro rfl ?_)
          refine And.intro (fun _ => ?_) (fun h => absurd hneg (dec_false (p := w.tmod 5 < 0) h))
          refine Exists.intro (.int .i64 (j : Int)) (And.intro (i64_eq hj (by omega) (by omega)) ?_)
          obtain ⟨q, hq⟩ : ∃ q, ps[j]? = some q := ⟨ps[j]'(by omega), List.getElem?_eq_getElem (by omega)⟩
          have hqm := hql q (List.mem_of_getElem? hq)
          cases q with
          | nil =>
            refine Exists.intro _ (And.intro rfl ?_)
            refine Exists.intro _ (And.intro (idx_ls hj5) ?_)
            refine Exists.intro _ (And.intro hb (rd_ls (encP_one []) (get_part hq) ?_))
            refine .inr (And.intro ?_ ?_)
            · intro hmem
              obtain ⟨_, s, ss, hs⟩ := (he _).1 hmem
              simp only at hs
              rw [hq] at hs; cases hs
            refine And.intro (Int.natCast_nonneg _) (Exists.intro _ (And.intro (get_row hr) ?_))
            refine Exists.intro [r.enc] (And.intro rfl ?_)
            refine And.intro (Nat.le_of_ble_eq_true rfl) (And.intro (Nat.le_of_ble_eq_true rfl) (And.intro (Nat.le_of_ble_eq_true rfl) (And.intro rfl ?_)))
            refine Exists.intro _ (And.intro (idx_ls hj5) ?_)
            refine Exists.intro _ (And.intro hb ?_)
            refine And.intro rfl (And.intro (Nat.succ_pos _) (And.intro (?_ : j + 1 ≤ (ps.map encP).length) ?_))
            · omega
            refine Exists.intro (H.set id (some ⟨22, (ps.map encP).set j (encP ([] ++ [r]))⟩)) (And.intro (by rw [← splice_one _ (by omega)]; rfl) ?_)
            refine Exists.intro ((id, j) :: cl.filter fun p => !(decide (p.1 = id ∧ j ≤ p.2 ∧ p.2 < j + 1))) (And.intro (fun p => ?_) ?_)
            · rw [List.mem_cons, List.mem_filter, Bool.not_eq_true', decide_eq_false_iff_not]; exact Iff.rfl
            refine Exists.intro (.int .i64 ((i + 1 : Nat) : Int)) (And.intro (i64_eq (by omega) (by omega) (by omega)) ?_)
            exact hnext j [] _ hq (he.step0 hq fun p => by rw [List.mem_cons, List.mem_filter, Bool.not_eq_true', decide_eq_false_iff_not])
          | cons a q =>
            refine Exists.intro _ (And.intro rfl ?_)
            refine Exists.intro _ (And.intro (idx_ls hj5) ?_)
            refine Exists.intro _ (And.intro hb (rd_ls (encP_one (a :: q)) (get_part hq) ?_))
            refine .inl (And.intro ((he (id, j)).2 ⟨rfl, a, q, hq⟩) ?_)
            refine Exists.intro (cl.filter fun p => !(decide (p = (id, j)))) (And.intro (fun p => by rw [List.mem_filter, Bool.not_eq_true', decide_eq_false_iff_not]) ?_)
            refine And.intro (Int.natCast_nonneg _) (Exists.intro _ (And.intro (get_row hr) ?_))
            refine Exists.intro [r.enc] (And.intro rfl ?_)
            refine And.intro rfl (And.intro rfl (And.intro (?_ : (((a :: q).map Row.enc).length + 1) * 48 ≤ 140737488355328) (And.intro (?_ : ((a :: q).map Row.enc).length + 1 ≤ 140737488355328) (And.intro (Nat.le_of_ble_eq_true rfl) (And.intro rfl (Exists.intro (((a :: q) ++ [r]).map Row.enc) (And.intro (by rw [List.map_append]; rfl) ?_)))))))
            · rw [List.length_map]; omega
            · rw [List.length_map]; omega
            refine Exists.intro _ (And.intro (idx_ls hj5) ?_)
            refine Exists.intro _ (And.intro hb ?_)
            refine And.intro rfl (And.intro (Nat.succ_pos _) (And.intro (?_ : j + 1 ≤ (ps.map encP).length) ?_))
            · omega
            refine Exists.intro (H.set id (some ⟨22, (ps.map encP).set j (encP ((a :: q) ++ [r]))⟩)) (And.intro (by rw [← splice_one _ (by omega)]; rfl) ?_)
            refine Exists.intro ((id, j) :: (cl.filter fun p => !(decide (p = (id, j)))).filter fun p => !(decide (p.1 = id ∧ j ≤ p.2 ∧ p.2 < j + 1))) (And.intro (fun p => ?_) ?_)
            · exact mem_cf fun p => p.1 = id ∧ j ≤ p.2 ∧ p.2 < j + 1
            refine Exists.intro (.int .i64 ((i + 1 : Nat) : Int)) (And.intro (i64_eq (by omega) (by omega) (by omega)) ?_)
            exact hnext j (a :: q) _ hq (he.step1 (ds := cl.filter fun p => !(decide (p = (id, j)))) hq (fun p => by rw [List.mem_filter, Bool.not_eq_true', decide_eq_false_iff_not]) fun p => mem_cf fun p => p.1 = id ∧ j ≤ p.2 ∧ p.2 < j + 1)
        case neg =>
          obtain ⟨j, hj⟩ : ∃ j : Nat, w.tmod 5 = (j : Int) := ⟨(w.tmod 5).toNat, by omega⟩
          have hj5 : j < 5 := by omega
          refine L_round ?_
          refine And.intro (fun _ => ?_) (fun h => by
            exfalso
            have h := dec_false (p := (i : Int) < ((l.map Row.enc).length : Nat)) h
            rw [List.length_map] at h
            omega)
          refine And.intro (fun _ => ?_) (fun h => by
            exfalso
            have h := dec_false (p := (i : Int) < ((ws.map (AV.int .i64)).length : Nat)) h
            rw [List.length_map] at h
            omega)
          refine And.intro (Int.natCast_nonneg _) (Exists.intro _ (And.intro (get_int hwv) ?_))
          refine Exists.intro (.int .i64 (j : Int)) (And.intro (by rw [← hj]; rfl) ?_)
          refine And.intro (fun h => ?_) (fun _ => ?_)
          · exfalso
            have h := dec_true (p := (j : Int) < 0) h
            omega
          obtain ⟨q, hq⟩ : ∃ q, ps[j]? = some q := ⟨ps[j]'(by omega), List.getElem?_eq_getElem (by omega)⟩
          have hqm := hql q (List.mem_of_getElem? hq)
          cases q with
          | nil =>
            refine Exists.intro _ (And.intro rfl ?_)
            refine Exists.intro _ (And.intro (idx_ls hj5) ?_)
            refine Exists.intro _ (And.intro hb (rd_ls (encP_one []) (get_part hq) ?_))
            refine .inr (And.intro ?_ ?_)
            · intro hmem
              obtain ⟨_, s, ss, hs⟩ := (he _).1 hmem
              simp only at hs
              rw [hq] at hs; cases hs
            refine And.intro (Int.natCast_nonneg _) (Exists.intro _ (And.intro (get_row hr) ?_))
            refine Exists.intro [r.enc] (And.intro rfl ?_)
            refine And.intro (Nat.le_of_ble_eq_true rfl) (And.intro (Nat.le_of_ble_eq_true rfl) (And.intro (Nat.le_of_ble_eq_true rfl) (And.intro rfl ?_)))
            refine Exists.intro _ (And.intro (idx_ls hj5) ?_)
            refine Exists.intro _ (And.intro hb ?_)
            refine And.intro rfl (And.intro (Nat.succ_pos _) (And.intro (?_ : j + 1 ≤ (ps.map encP).length) ?_))
            · omega
            refine Exists.intro (H.set id (some ⟨22, (ps.map encP).set j (encP ([] ++ [r]))⟩)) (And.intro (by rw [← splice_one _ (by omega)]; rfl) ?_)
            refine Exists.intro ((id, j) :: cl.filter fun p => !(decide (p.1 = id ∧ j ≤ p.2 ∧ p.2 < j + 1))) (And.intro (fun p => ?_) ?_)
            · rw [List.mem_cons, List.mem_filter, Bool.not_eq_true', decide_eq_false_iff_not]; exact Iff.rfl
            refine Exists.intro (.int .i64 ((i + 1 : Nat) : Int)) (And.intro (i64_eq (by omega) (by omega) (by omega)) ?_)
            exact hnext j [] _ hq (he.step0 hq fun p => by rw [List.mem_cons, List.mem_filter, Bool.not_eq_true', decide_eq_false_iff_not])
          | cons a q =>
            refine Exists.intro _ (And.intro rfl ?_)
            refine Exists.intro _ (And.intro (idx_ls hj5) ?_)
            refine Exists.intro _ (And.intro hb (rd_ls (encP_one (a :: q)) (get_part hq) ?_))
            refine .inl (And.intro ((he (id, j)).2 ⟨rfl, a, q, hq⟩) ?_)
            refine Exists.intro (cl.filter fun p => !(decide (p = (id, j)))) (And.intro (fun p => by rw [List.mem_filter, Bool.not_eq_true', decide_eq_false_iff_not]) ?_)
            refine And.intro (Int.natCast_nonneg _) (Exists.intro _ (And.intro (get_row hr) ?_))
            refine Exists.intro [r.enc] (And.intro rfl ?_)
            refine And.intro rfl (And.intro rfl (And.intro (?_ : (((a :: q).map Row.enc).length + 1) * 48 ≤ 140737488355328) (And.intro (?_ : ((a :: q).map Row.enc).length + 1 ≤ 140737488355328) (And.intro (Nat.le_of_ble_eq_true rfl) (And.intro rfl (Exists.intro (((a :: q) ++ [r]).map Row.enc) (And.intro (by rw [List.map_append]; rfl) ?_)))))))
            · rw [List.length_map]; omega
            · rw [List.length_map]; omega
            refine Exists.intro _ (And.intro (idx_ls hj5) ?_)
            refine Exists.intro _ (And.intro hb ?_)
            refine And.intro rfl (And.intro (Nat.succ_pos _) (And.intro (?_ : j + 1 ≤ (ps.map encP).length) ?_))
            · omega
            refine Exists.intro (H.set id (some ⟨22, (ps.map encP).set j (encP ((a :: q) ++ [r]))⟩)) (And.intro (by rw [← splice_one _ (by omega)]; rfl) ?_)
            refine Exists.intro ((id, j) :: (cl.filter fun p => !(decide (p = (id, j)))).filter fun p => !(decide (p.1 = id ∧ j ≤ p.2 ∧ p.2 < j + 1))) (And.intro (fun p => ?_) ?_)
            · exact mem_cf fun p => p.1 = id ∧ j ≤ p.2 ∧ p.2 < j + 1
            refine Exists.intro (.int .i64 ((i + 1 : Nat) : Int)) (And.intro (i64_eq (by omega) (by omega) (by omega)) ?_)
            exact hnext j (a :: q) _ hq (he.step1 (ds := cl.filter fun p => !(decide (p = (id, j)))) hq (fun p => by rw [List.mem_filter, Bool.not_eq_true', decide_eq_false_iff_not]) fun p => mem_cf fun p => p.1 = id ∧ j ≤ p.2 ∧ p.2 < j + 1)
end Go.Proofs.Ytnajopkaepjncaa

/- Rows that are parted into lists are made one again as they were: the law's own function, whole. -/
namespace Go.Proofs.Ytnajopkaepjncaa
open Am
set_option linter.unusedVariables false
set_option linter.unusedSimpArgs false
set_option maxRecDepth 8000

theorem back_loop0 (id : Nat) (ps : List (List Row)) (hlen : ps.length = 5) : ∀ (m i : Nat) (bs : List AV) (H : Hp) (cl : Cl), 5 - i = m → i ≤ 5 → H[id]? = some (some ⟨22, ps.map encP⟩) → bs = ((ps.map encP).reverse).take i →
    L Try.prog K0 (K0.vars 8) 113 c8c [(0, .nils), (7, .sl 22 id 0 5), (8, built 22 bs), (12, .int .i64 (i : Int))] H (ownd 8 bs) cl
      fun e env H' sl cl' => e = .exit 4 ∧ H' = H ∧ cl' = cl ∧ sl = [8] ∧ ∃ v12 v73, env = [(0, .nils), (7, .sl 22 id 0 5), (8, .lst 22 (ps.map encP).reverse []), (12, v12), (73, v73)] := by
  intro m
  have hrl : ((ps.map encP).reverse).length = 5 := by rw [List.length_reverse, List.length_map]; exact hlen
  induction m with
  | zero =>
    intro i bs H cl hm hi hb hbs
    obtain rfl : i = 5 := by omega
    rw [List.take_of_length_le (by omega)] at hbs
    obtain ⟨b, r, hbr⟩ : ∃ b r, bs = b :: r := by
      cases hc : bs with
      | nil => rw [← hbs, hc] at hrl; cases hrl
      | cons b r => exact ⟨b, r, rfl⟩
    rw [← hbs]
    clear hbs
    subst hbr
    refine L_round ?_
    refine And.intro (fun h => by cases h) (fun _ => ?_)
    exact And.intro rfl (And.intro rfl (And.intro rfl (And.intro rfl ⟨_, _, rfl⟩)))
  | succ m ih =>
    intro i bs H cl hm hi hb hbs
    obtain ⟨j, hj⟩ : ∃ j : Nat, j = 4 - i := ⟨_, rfl⟩
    have hj5 : j < 5 := by omega
    obtain ⟨q, hq⟩ : ∃ q, ps[j]? = some q := ⟨ps[j]'(by omega), List.getElem?_eq_getElem (by omega)⟩
    have hqr : ((ps.map encP).reverse)[i]? = some (encP q) := by
      rw [List.getElem?_reverse (by rw [List.length_map]; omega), List.length_map, show ps.length - 1 - i = j by omega]
      exact get_part hq
    have hbn : bs ++ [encP q] = ((ps.map encP).reverse).take (i + 1) := by rw [List.take_add_one, hqr, hbs]; rfl
    have hbl : bs.length ≤ 5 := by rw [hbs, List.length_take]; omega
    have hnext := ih (i + 1) (bs ++ [encP q]) H cl (by omega) (by omega) hb hbn
    have hsub : (4 : Int) - (i : Int) = (j : Int) := by omega
    clear hbs hbn
    refine L_round ?_
    cases bs with
    | nil =>
      cases q with
      | nil =>
        refine And.intro (fun _ => ?_) (fun h => by
          exfalso
          have h := dec_false (p := (i : Int) < 5) h
          omega)
        refine Exists.intro (.int .i64 (j : Int)) (And.intro (i64_eq hsub (by omega) (by omega)) ?_)
        refine Exists.intro _ (And.intro (idx_ls hj5) ?_)
        refine Exists.intro _ (And.intro hb (rd_ls (encP_one []) (get_part hq) ?_))
        refine Exists.intro [encP []] (And.intro rfl ?_)
        refine And.intro (Nat.le_of_ble_eq_true rfl) (And.intro (Nat.le_of_ble_eq_true rfl) (And.intro (Nat.le_of_ble_eq_true rfl) (And.intro rfl ?_)))
        refine Exists.intro (.int .i64 ((i + 1 : Nat) : Int)) (And.intro (i64_eq (by omega) (by omega) (by omega)) ?_)
        exact hnext
      | cons a q =>
        refine And.intro (fun _ => ?_) (fun h => by
          exfalso
          have h := dec_false (p := (i : Int) < 5) h
          omega)
        refine Exists.intro (.int .i64 (j : Int)) (And.intro (i64_eq hsub (by omega) (by omega)) ?_)
        refine Exists.intro _ (And.intro (idx_ls hj5) ?_)
        refine Exists.intro _ (And.intro hb (rd_ls (encP_one (a :: q)) (get_part hq) ?_))
        refine Exists.intro [encP (a :: q)] (And.intro rfl ?_)
        refine And.intro (Nat.le_of_ble_eq_true rfl) (And.intro (Nat.le_of_ble_eq_true rfl) (And.intro (Nat.le_of_ble_eq_true rfl) (And.intro rfl ?_)))
        refine Exists.intro (.int .i64 ((i + 1 : Nat) : Int)) (And.intro (i64_eq (by omega) (by omega) (by omega)) ?_)
        exact hnext
    | cons b bs =>
      cases q with
      | nil =>
        refine And.intro (fun _ => ?_) (fun h => by
          exfalso
          have h := dec_false (p := (i : Int) < 5) h
          omega)
        refine Exists.intro (.int .i64 (j : Int)) (And.intro (i64_eq hsub (by omega) (by omega)) ?_)
        refine Exists.intro _ (And.intro (idx_ls hj5) ?_)
        refine Exists.intro _ (And.intro hb (rd_ls (encP_one []) (get_part hq) ?_))
        refine Exists.intro [encP []] (And.intro rfl ?_)
        refine And.intro rfl (And.intro rfl (And.intro (?_ : ((b :: bs).length + 1) * 24 ≤ 140737488355328) (And.intro (?_ : (b :: bs).length + 1 ≤ 140737488355328) (And.intro (Nat.le_of_ble_eq_true rfl) (And.intro rfl (Exists.intro ((b :: bs) ++ [encP []]) (And.intro rfl ?_)))))))
        · omega
        · omega
        refine Exists.intro (.int .i64 ((i + 1 : Nat) : Int)) (And.intro (i64_eq (by omega) (by omega) (by omega)) ?_)
        exact hnext
      | cons a q =>
        refine And.intro (fun _ => ?_) (fun h => by
          exfalso
          have h := dec_false (p := (i : Int) < 5) h
          omega)
        refine Exists.intro (.int .i64 (j : Int)) (And.intro (i64_eq hsub (by omega) (by omega)) ?_)
        refine Exists.intro _ (And.intro (idx_ls hj5) ?_)
        refine Exists.intro _ (And.intro hb (rd_ls (encP_one (a :: q)) (get_part hq) ?_))
        refine Exists.intro [encP (a :: q)] (And.intro rfl ?_)
        refine And.intro rfl (And.intro rfl (And.intro (?_ : ((b :: bs).length + 1) * 24 ≤ 140737488355328) (And.intro (?_ : (b :: bs).length + 1 ≤ 140737488355328) (And.intro (Nat.le_of_ble_eq_true rfl) (And.intro rfl (Exists.intro ((b :: bs) ++ [encP (a :: q)]) (And.intro rfl ?_)))))))
        · omega
        · omega
        refine Exists.intro (.int .i64 ((i + 1 : Nat) : Int)) (And.intro (i64_eq (by omega) (by omega) (by omega)) ?_)
        exact hnext

theorem back_loop1 (xs sp : List AV) (id : Nat) (ps : List (List Row)) (hlen : ps.length = 5) : ∀ (m i : Nat) (bs : List AV) (H : Hp) (cl : Cl), 5 - i = m → i ≤ 5 → H[id]? = some (some ⟨22, ps.map encP⟩) → bs = ((ps.map encP).reverse).take i →
    L Try.prog K0 (K0.vars 8) 113 c8c [(0, .lst 39 xs sp), (7, .sl 22 id 0 5), (8, built 22 bs), (12, .int .i64 (i : Int))] H (ownd 8 bs) cl
      fun e env H' sl cl' => e = .exit 4 ∧ H' = H ∧ cl' = cl ∧ sl = [8] ∧ ∃ v12 v73, env = [(0, .lst 39 xs sp), (7, .sl 22 id 0 5), (8, .lst 22 (ps.map encP).reverse []), (12, v12), (73, v73)] := by
  intro m
  have hrl : ((ps.map encP).reverse).length = 5 := by rw [List.length_reverse, List.length_map]; exact hlen
  induction m with
  | zero =>
    intro i bs H cl hm hi hb hbs
    obtain rfl : i = 5 := by omega
    rw [List.take_of_length_le (by omega)] at hbs
    obtain ⟨b, r, hbr⟩ : ∃ b r, bs = b :: r := by
      cases hc : bs with
      | nil => rw [← hbs, hc] at hrl; cases hrl
      | cons b r => exact ⟨b, r, rfl⟩
    rw [← hbs]
    clear hbs
    subst hbr
    refine L_round ?_
    refine And.intro (fun h => by cases h) (fun _ => ?_)
    exact And.intro rfl (And.intro rfl (And.intro rfl (And.intro rfl ⟨_, _, rfl⟩)))
  | succ m ih =>
    intro i bs H cl hm hi hb hbs
    obtain ⟨j, hj⟩ : ∃ j : Nat, j = 4 - i := ⟨_, rfl⟩
    have hj5 : j < 5 := by omega
    obtain ⟨q, hq⟩ : ∃ q, ps[j]? = some q := ⟨ps[j]'(by omega), List.getElem?_eq_getElem (by omega)⟩
    have hqr : ((ps.map encP).reverse)[i]? = some (encP q) := by
      rw [List.getElem?_reverse (by rw [List.length_map]; omega), List.length_map, show ps.length - 1 - i = j by omega]
      exact get_part hq
    have hbn : bs ++ [encP q] = ((ps.map encP).reverse).take (i + 1) := by rw [List.take_add_one, hqr, hbs]; rfl
    have hbl : bs.length ≤ 5 := by rw [hbs, List.length_take]; omega
    have hnext := ih (i + 1) (bs ++ [encP q]) H cl (by omega) (by omega) hb hbn
    have hsub : (4 : Int) - (i : Int) = (j : Int) := by omega
    clear hbs hbn
    refine L_round ?_
    cases bs with
    | nil =>
      cases q with
      | nil =>
        refine And.intro (fun _ => ?_) (fun h => by
          exfalso
          have h := dec_false (p := (i : Int) < 5) h
          omega)
        refine Exists.intro (.int .i64 (j : Int)) (And.intro (i64_eq hsub (by omega) (by omega)) ?_)
        refine Exists.intro _ (And.intro (idx_ls hj5) ?_)
        refine Exists.intro _ (And.intro hb (rd_ls (encP_one []) (get_part hq) ?_))
        refine Exists.intro [encP []] (And.intro rfl ?_)
        refine And.intro (Nat.le_of_ble_eq_true rfl) (And.intro (Nat.le_of_ble_eq_true rfl) (And.intro (Nat.le_of_ble_eq_true rfl) (And.intro rfl ?_)))
        refine Exists.intro (.int .i64 ((i + 1 : Nat) : Int)) (And.intro (i64_eq (by omega) (by omega) (by omega)) ?_)
        exact hnext
      | cons a q =>
        refine And.intro (fun _ => ?_) (fun h => by
          exfalso
          have h := dec_false (p := (i : Int) < 5) h
          omega)
        refine Exists.intro (.int .i64 (j : Int)) (And.intro (i64_eq hsub (by omega) (by omega)) ?_)
        refine Exists.intro _ (And.intro (idx_ls hj5) ?_)
        refine Exists.intro _ (And.intro hb (rd_ls (encP_one (a :: q)) (get_part hq) ?_))
        refine Exists.intro [encP (a :: q)] (And.intro rfl ?_)
        refine And.intro (Nat.le_of_ble_eq_true rfl) (And.intro (Nat.le_of_ble_eq_true rfl) (And.intro (Nat.le_of_ble_eq_true rfl) (And.intro rfl ?_)))
        refine Exists.intro (.int .i64 ((i + 1 : Nat) : Int)) (And.intro (i64_eq (by omega) (by omega) (by omega)) ?_)
        exact hnext
    | cons b bs =>
      cases q with
      | nil =>
        refine And.intro (fun _ => ?_) (fun h => by
          exfalso
          have h := dec_false (p := (i : Int) < 5) h
          omega)
        refine Exists.intro (.int .i64 (j : Int)) (And.intro (i64_eq hsub (by omega) (by omega)) ?_)
        refine Exists.intro _ (And.intro (idx_ls hj5) ?_)
        refine Exists.intro _ (And.intro hb (rd_ls (encP_one []) (get_part hq) ?_))
        refine Exists.intro [encP []] (And.intro rfl ?_)
        refine And.intro rfl (And.intro rfl (And.intro (?_ : ((b :: bs).length + 1) * 24 ≤ 140737488355328) (And.intro (?_ : (b :: bs).length + 1 ≤ 140737488355328) (And.intro (Nat.le_of_ble_eq_true rfl) (And.intro rfl (Exists.intro ((b :: bs) ++ [encP []]) (And.intro rfl ?_)))))))
        · omega
        · omega
        refine Exists.intro (.int .i64 ((i + 1 : Nat) : Int)) (And.intro (i64_eq (by omega) (by omega) (by omega)) ?_)
        exact hnext
      | cons a q =>
        refine And.intro (fun _ => ?_) (fun h => by
          exfalso
          have h := dec_false (p := (i : Int) < 5) h
          omega)
        refine Exists.intro (.int .i64 (j : Int)) (And.intro (i64_eq hsub (by omega) (by omega)) ?_)
        refine Exists.intro _ (And.intro (idx_ls hj5) ?_)
        refine Exists.intro _ (And.intro hb (rd_ls (encP_one (a :: q)) (get_part hq) ?_))
        refine Exists.intro [encP (a :: q)] (And.intro rfl ?_)
        refine And.intro rfl (And.intro rfl (And.intro (?_ : ((b :: bs).length + 1) * 24 ≤ 140737488355328) (And.intro (?_ : (b :: bs).length + 1 ≤ 140737488355328) (And.intro (Nat.le_of_ble_eq_true rfl) (And.intro rfl (Exists.intro ((b :: bs) ++ [encP (a :: q)]) (And.intro rfl ?_)))))))
        · omega
        · omega
        refine Exists.intro (.int .i64 ((i + 1 : Nat) : Int)) (And.intro (i64_eq (by omega) (by omega) (by omega)) ?_)
        exact hnext

/-- Rows in order that are parted are made one as they were. -/
theorem parted_made {l : List Row} (hl : OrdA l) {ls : List (List Row)} (h1 : ∀ q ∈ ls, ∀ r ∈ q, r ∈ l) (h2 : ∀ r ∈ l, ∃ q ∈ ls, r ∈ q) : Made1 ls l := by
  refine ⟨hl, fun r => ⟨fun hr => ?_, fun hr => ?_⟩⟩
  · obtain ⟨q, hq, hrq⟩ := h2 r hr
    obtain ⟨i, hi⟩ := List.mem_iff_getElem?.1 hq
    obtain ⟨j, r', l', _, g1, g2, g3, g4⟩ := first_has i hi hrq
    rw [← ord_like hl (h1 l' (List.mem_of_getElem? g3) r' g4) hr g2]
    exact g1
  · obtain ⟨i, q, hi, hrq, _⟩ := hr
    exact h1 q (List.mem_of_getElem? hi) r hrq
theorem parts_av (ps : List (List Row)) : (ps.map outLs).map Ls.av = ps.map encP := by
  rw [List.map_map]
  exact List.map_congr_left fun q _ => outLs_av q
theorem parts_l (ps : List (List Row)) : (ps.map outLs).map Ls.l = ps := by
  rw [List.map_map]
  exact (List.map_congr_left fun q _ => outLs_l q).trans (List.map_id ps)
theorem sum_le : ∀ (ps : List (List Row)), (∀ q ∈ ps, q.length ≤ 100) → (ps.map List.length).sum ≤ 100 * ps.length
  | [], _ => Nat.le_refl _
  | q :: r, h => by
    have h1 := h q (by simp)
    have h2 := sum_le r fun x hx => h x (by simp [hx])
    rw [List.map_cons, List.sum_cons, List.length_cons]; omega
theorem total_parts (ps : List (List Row)) (h : ∀ q ∈ ps, q.length ≤ 100) : total (ps.map outLs) ≤ 100 * ps.length := by
  have : total (ps.map outLs) = (ps.map List.length).sum := by
    unfold total
    rw [List.map_map]
    congr 1
    exact List.map_congr_left fun q _ => by show (outLs q).l.length = _; rw [outLs_l]
  rw [this]
  exact sum_le ps h
/-- What the calls of Merge answer. -/
theorem parted_calls {l : List Row} (ho : orderP l = true) (hl : l.length ≤ 100) {ps : List (List Row)} (h : PInv l l.length ps) {H : Hp} {id : Nat} (hb : H[id]? = some (some ⟨22, ps.map encP⟩)) (cl : Cl) :
    ∃ E cl2 F cl3, CallsA Try.prog K0 22 [.sl 22 id 0 5] H cl (.tup [built 39 (l.map Row.enc), .int .i64 0]) (H ++ E) cl2 ∧ CallsA Try.prog K0 22 [.lst 22 (ps.map encP).reverse []] (H ++ E) cl2 (.tup [built 39 (l.map Row.enc), .int .i64 0]) ((H ++ E) ++ F) cl3 := by
  have hord := ordA_of ho
  have htk : l.take l.length = l := List.take_of_length_le (Nat.le_refl _)
  have hsub := h.sub
  have hmem := h.mem
  rw [htk] at hsub hmem
  have hlen : ∀ q ∈ ps, q.length ≤ 100 := fun q hq => Nat.le_trans (hsub q hq).length_le hl
  have hok : ∀ (qs : List (List Row)), ∀ q ∈ qs.map outLs, q.ok := fun qs q hq => by
    obtain ⟨r, _, rfl⟩ := List.mem_map.1 hq
    exact outLs_ok r
  have hgood : ∀ (qs : List (List Row)), (∀ q ∈ qs, q ∈ ps) → (∀ q ∈ qs.map outLs, orderP q.l = true) ∧ (∀ q ∈ qs.map outLs, q.l.length < 1048576) := fun qs hqs => by
    refine ⟨fun q hq => ?_, fun q hq => ?_⟩
    · obtain ⟨r, hr, rfl⟩ := List.mem_map.1 hq
      rw [outLs_l]
      exact of_ordA (hord.sublist (hsub r (hqs r hr)))
    · obtain ⟨r, hr, rfl⟩ := List.mem_map.1 hq
      rw [outLs_l]
      have := hlen r (hqs r hr)
      omega
  have hfin : ∀ (qs : List (List Row)) (y : AV), (∀ q, q ∈ qs ↔ q ∈ ps) → madeR (qs.map outLs) y → y = .tup [built 39 (l.map Row.enc), .int .i64 0] := by
    intro qs y hqs hy
    have hg := hgood qs fun q hq => (hqs q).1 hq
    rcases hy with ⟨⟨q, hq, hqo⟩, _⟩ | ⟨_, a, ha, rfl⟩
    · rw [hg.1 q hq] at hqo; cases hqo
    · rw [parts_l] at ha
      rw [made_eq ha (parted_made hord (fun q hq r hr => (hsub q ((hqs q).1 hq)).subset hr) (fun r hr => by
        obtain ⟨q, hq, hrq⟩ := hmem r hr
        exact ⟨q, (hqs q).2 hq, hrq⟩))]
  have hb2 : H[id]? = some (some ⟨22, (ps.map outLs).map Ls.av⟩) := by rw [parts_av]; exact hb
  have hpl := h.len
  have htot := total_parts ps hlen
  obtain ⟨y, E, hy, hE⟩ := madeS_spec (hok ps) (by rw [List.length_map]; omega) (hgood ps fun q hq => hq).2 (by omega) hb2
  obtain rfl := hfin ps y (fun q => Iff.rfl) hy
  rw [List.length_map, hpl] at hE
  obtain ⟨cl2, hE2⟩ := calls_own k0_up rfl hE cl
  have hrev : ∀ q, q ∈ ps.reverse ↔ q ∈ ps := fun q => List.mem_reverse
  have hlen2 : ∀ q ∈ ps.reverse, q.length ≤ 100 := fun q hq => hlen q ((hrev q).1 hq)
  have htot2 := total_parts ps.reverse hlen2
  rw [List.length_reverse] at htot2
  obtain ⟨z, F, hz, hF⟩ := made_spec (x := .lst 22 (ps.map encP).reverse []) (ps := ps.reverse.map outLs) (.inr ⟨[], by rw [parts_av, List.map_reverse]⟩) (hok _) (by rw [List.length_map, List.length_reverse]; omega) (hgood _ fun q hq => (hrev q).1 hq).2 (by omega) (H ++ E)
  obtain rfl := hfin _ z hrev hz
  obtain ⟨cl3, hF2⟩ := calls_own k0_up rfl hF cl2
  exact ⟨E, cl2, F, cl3, hE2, hF2⟩
theorem pinv0 (l : List Row) : PInv l 0 (List.replicate 5 []) := ⟨List.length_replicate, fun q hq => by rw [List.eq_of_mem_replicate hq]; exact List.nil_sublist _, fun r hr => by rw [List.take_zero] at hr; cases hr⟩
theorem ends0 (id : Nat) : Ends id (List.replicate 5 []) [] := fun p => by
  constructor
  · intro h; cases h
  · rintro ⟨_, r, rs, h⟩
    have := List.eq_of_mem_replicate (List.mem_of_getElem? h)
    cases this
theorem map0 : (List.replicate 5 ([] : List Row)).map encP = List.replicate 5 .nils := rfl

theorem MergeParted_spec {x z : AV} {l : List Row} {ws : List Int} (hx : IsRows x l) (hz : IsInts z ws) : ∃ y H' cells', y = AV.bool true ∧ CallsA Try.prog K0 8 [x, z] [] [] y H' cells' := by
  refine calls_post (P := Try.prog) (K := K0) (f := 8) (args := [x, z]) (H := []) (cells := []) (R := fun y _ _ => y = AV.bool true) Try.func8 rfl rfl ?_ ?_
  · rfl
  by_cases hl : l.length ≤ 100
  case neg =>
    rcases hx with ⟨rfl, rfl⟩ | ⟨sp, rfl⟩
    · exact absurd (Nat.zero_le _) hl
    · rcases hz with ⟨rfl, rfl⟩ | ⟨sz, rfl⟩
      · refine And.intro (fun _ => ?_) (fun h => by
          exfalso
          have h := dec_false (p := ((l.map Row.enc).length : Int) > 100) h
          rw [List.length_map] at h
          omega)
        refine And.intro rfl (Exists.intro _ (Exists.intro _ (Exists.intro _ (And.intro (awake_spec _ _) ?_))))
        exact Exists.intro _ (And.intro rfl rfl)
      · refine And.intro (fun _ => ?_) (fun h => by
          exfalso
          have h := dec_false (p := ((l.map Row.enc).length : Int) > 100) h
          rw [List.length_map] at h
          omega)
        refine And.intro rfl (Exists.intro _ (Exists.intro _ (Exists.intro _ (And.intro (awake_spec _ _) ?_))))
        exact Exists.intro _ (And.intro rfl rfl)
  case pos =>
  obtain ⟨E1, hE1⟩ := at_spec hx (by omega) 0 [] []
  cases ho : orderP l with
  | false =>
    have ha : atA l 0 = .tup [.nils, .int .i64 2] := by unfold atA; rw [ho]
    rw [ha] at hE1
    rcases hx with ⟨rfl, rfl⟩ | ⟨sp, rfl⟩
    · rcases hz with ⟨rfl, rfl⟩ | ⟨sz, rfl⟩
      · refine And.intro (fun h => by cases h) (fun _ => ?_)
        refine And.intro rfl (Exists.intro _ (Exists.intro _ (Exists.intro _ (And.intro hE1 ?_))))
        refine And.intro (fun _ => ?_) (fun h => by cases h)
        refine And.intro (fun _ => ?_) (fun h => by cases h)
        refine And.intro rfl (Exists.intro _ (Exists.intro _ (Exists.intro _ (And.intro (awake_spec _ _) ?_))))
        exact Exists.intro _ (And.intro rfl rfl)
      · refine And.intro (fun h => by cases h) (fun _ => ?_)
        refine And.intro rfl (Exists.intro _ (Exists.intro _ (Exists.intro _ (And.intro hE1 ?_))))
        refine And.intro (fun _ => ?_) (fun h => by cases h)
        refine And.intro (fun _ => ?_) (fun h => by cases h)
        refine And.intro rfl (Exists.intro _ (Exists.intro _ (Exists.intro _ (And.intro (awake_spec _ _) ?_))))
        exact Exists.intro _ (And.intro rfl rfl)
    · rcases hz with ⟨rfl, rfl⟩ | ⟨sz, rfl⟩
      · refine And.intro (fun h => by
          exfalso
          have h := dec_true (p := ((l.map Row.enc).length : Int) > 100) h
          rw [List.length_map] at h
          omega) (fun _ => ?_)
        refine And.intro rfl (Exists.intro _ (Exists.intro _ (Exists.intro _ (And.intro hE1 ?_))))
        refine And.intro (fun _ => ?_) (fun h => by cases h)
        refine And.intro (fun _ => ?_) (fun h => by cases h)
        refine And.intro rfl (Exists.intro _ (Exists.intro _ (Exists.intro _ (And.intro (awake_spec _ _) ?_))))
        exact Exists.intro _ (And.intro rfl rfl)
      · refine And.intro (fun h => by
          exfalso
          have h := dec_true (p := ((l.map Row.enc).length : Int) > 100) h
          rw [List.length_map] at h
          omega) (fun _ => ?_)
        refine And.intro rfl (Exists.intro _ (Exists.intro _ (Exists.intro _ (And.intro hE1 ?_))))
        refine And.intro (fun _ => ?_) (fun h => by cases h)
        refine And.intro (fun _ => ?_) (fun h => by cases h)
        refine And.intro rfl (Exists.intro _ (Exists.intro _ (Exists.intro _ (And.intro (awake_spec _ _) ?_))))
        exact Exists.intro _ (And.intro rfl rfl)
  | true =>
    have ha : atA l 0 = .tup [built 41 ((atP l 0).map Pr.enc), .int .i64 0] := by unfold atA; rw [ho]
    rw [ha] at hE1
    rcases hx with ⟨rfl, rfl⟩ | ⟨sp, rfl⟩
    · rcases hz with ⟨rfl, rfl⟩ | ⟨sz, rfl⟩
      · cases hat : atP [] 0 with
        | nil =>
          rw [hat] at hE1
          refine And.intro (fun h => by cases h) (fun _ => ?_)
          refine And.intro rfl (Exists.intro _ (Exists.intro _ (Exists.intro _ (And.intro hE1 ?_))))
          refine And.intro (fun h => by cases h) (fun _ => ?_)
          have hnone := none_loop00 ([] ++ E1) 5 0 .nils ([] ++ E1) rfl (Nat.zero_le _) (Pf.refl _) (.inl ⟨rfl, rfl⟩)
          refine L_mono hnone ?_
          rintro e env H2 sl cl ⟨rfl, rfl, rfl, hp2, id, v9, v34, hid, hb2, rfl⟩
          rw [← map0] at hb2
          refine L_round ?_
          refine And.intro (fun h => by cases h) (fun _ => ?_)
          obtain ⟨ps', hps', hps⟩ : ∃ ps', ps' = List.replicate 5 ([] : List Row) ∧ PInv [] ([] : List Row).length ps' := ⟨_, rfl, pinv0 []⟩
          rw [← hps'] at hb2
          obtain ⟨H3, rfl⟩ : ∃ H3, H3 = H2 := ⟨_, rfl⟩
          have hb3 := hb2
          obtain ⟨cl, hcl⟩ : ∃ cl : Cl, cl = [] := ⟨_, rfl⟩
          rw [← hcl]
          have hbk := back_loop0 id ps' hps.len 5 0 [] H3 cl rfl (Nat.zero_le _) hb3 (by rw [List.take_zero])
          refine L_mono hbk ?_
          rintro e env H4 sl cl4 ⟨rfl, rfl, rfl, rfl, v12, v73, rfl⟩
          obtain ⟨E, cl2, F, cl3, hE, hF⟩ := parted_calls ho hl hps hb3 cl4
          obtain ⟨E5, hE5⟩ := same_spec19 (x := built 39 (([] : List Row).map Row.enc)) (y := .nils) (l := ([] : List Row)) (built_isL _ _) (.inl ⟨rfl, rfl⟩) (by omega) ((H4 ++ E) ++ F) cl3
          obtain ⟨E6, hE6⟩ := same_spec19 (x := built 39 (([] : List Row).map Row.enc)) (y := .nils) (l := ([] : List Row)) (built_isL _ _) (.inl ⟨rfl, rfl⟩) (by omega) (((H4 ++ E) ++ F) ++ E5) cl3
          refine And.intro rfl (Exists.intro _ (Exists.intro _ (Exists.intro _ (And.intro hE ?_))))
          refine And.intro rfl (Exists.intro _ (Exists.intro _ (Exists.intro _ (And.intro hF ?_))))
          refine And.intro (fun _ => ?_) (fun h => by cases h)
          refine And.intro (fun _ => ?_) (fun h => by cases h)
          refine And.intro rfl (Exists.intro _ (Exists.intro _ (Exists.intro _ (And.intro hE5 ?_))))
          refine And.intro (fun _ => ?_) (fun h => by cases h)
          refine And.intro rfl (Exists.intro _ (Exists.intro _ (Exists.intro _ (And.intro hE6 ?_))))
          refine And.intro (fun _ => ?_) (fun h => by cases h)
          refine And.intro rfl (Exists.intro _ (Exists.intro _ (Exists.intro _ (And.intro (awake_spec _ _) ?_))))
          exact Exists.intro _ (And.intro rfl rfl)
        | cons a0 as0 =>
          rw [hat] at hE1
          refine And.intro (fun h => by cases h) (fun _ => ?_)
          refine And.intro rfl (Exists.intro _ (Exists.intro _ (Exists.intro _ (And.intro hE1 ?_))))
          refine And.intro (fun h => by cases h) (fun _ => ?_)
          have hnone := none_loop00 ([] ++ E1) 5 0 .nils ([] ++ E1) rfl (Nat.zero_le _) (Pf.refl _) (.inl ⟨rfl, rfl⟩)
          refine L_mono hnone ?_
          rintro e env H2 sl cl ⟨rfl, rfl, rfl, hp2, id, v9, v34, hid, hb2, rfl⟩
          rw [← map0] at hb2
          refine L_round ?_
          refine And.intro (fun h => by cases h) (fun _ => ?_)
          obtain ⟨ps', hps', hps⟩ : ∃ ps', ps' = List.replicate 5 ([] : List Row) ∧ PInv [] ([] : List Row).length ps' := ⟨_, rfl, pinv0 []⟩
          rw [← hps'] at hb2
          obtain ⟨H3, rfl⟩ : ∃ H3, H3 = H2 := ⟨_, rfl⟩
          have hb3 := hb2
          obtain ⟨cl, hcl⟩ : ∃ cl : Cl, cl = [] := ⟨_, rfl⟩
          rw [← hcl]
          have hbk := back_loop0 id ps' hps.len 5 0 [] H3 cl rfl (Nat.zero_le _) hb3 (by rw [List.take_zero])
          refine L_mono hbk ?_
          rintro e env H4 sl cl4 ⟨rfl, rfl, rfl, rfl, v12, v73, rfl⟩
          obtain ⟨E, cl2, F, cl3, hE, hF⟩ := parted_calls ho hl hps hb3 cl4
          obtain ⟨E5, hE5⟩ := same_spec19 (x := built 39 (([] : List Row).map Row.enc)) (y := .nils) (l := ([] : List Row)) (built_isL _ _) (.inl ⟨rfl, rfl⟩) (by omega) ((H4 ++ E) ++ F) cl3
          obtain ⟨E6, hE6⟩ := same_spec19 (x := built 39 (([] : List Row).map Row.enc)) (y := .nils) (l := ([] : List Row)) (built_isL _ _) (.inl ⟨rfl, rfl⟩) (by omega) (((H4 ++ E) ++ F) ++ E5) cl3
          refine And.intro rfl (Exists.intro _ (Exists.intro _ (Exists.intro _ (And.intro hE ?_))))
          refine And.intro rfl (Exists.intro _ (Exists.intro _ (Exists.intro _ (And.intro hF ?_))))
          refine And.intro (fun _ => ?_) (fun h => by cases h)
          refine And.intro (fun _ => ?_) (fun h => by cases h)
          refine And.intro rfl (Exists.intro _ (Exists.intro _ (Exists.intro _ (And.intro hE5 ?_))))
          refine And.intro (fun _ => ?_) (fun h => by cases h)
          refine And.intro rfl (Exists.intro _ (Exists.intro _ (Exists.intro _ (And.intro hE6 ?_))))
          refine And.intro (fun _ => ?_) (fun h => by cases h)
          refine And.intro rfl (Exists.intro _ (Exists.intro _ (Exists.intro _ (And.intro (awake_spec _ _) ?_))))
          exact Exists.intro _ (And.intro rfl rfl)
      · cases hat : atP [] 0 with
        | nil =>
          rw [hat] at hE1
          refine And.intro (fun h => by cases h) (fun _ => ?_)
          refine And.intro rfl (Exists.intro _ (Exists.intro _ (Exists.intro _ (And.intro hE1 ?_))))
          refine And.intro (fun h => by cases h) (fun _ => ?_)
          have hnone := none_loop01 (ws.map (AV.int .i64)) sz ([] ++ E1) 5 0 .nils ([] ++ E1) rfl (Nat.zero_le _) (Pf.refl _) (.inl ⟨rfl, rfl⟩)
          refine L_mono hnone ?_
          rintro e env H2 sl cl ⟨rfl, rfl, rfl, hp2, id, v9, v34, hid, hb2, rfl⟩
          rw [← map0] at hb2
          refine L_round ?_
          refine And.intro (fun h => by cases h) (fun _ => ?_)
          obtain ⟨ps', hps', hps⟩ : ∃ ps', ps' = List.replicate 5 ([] : List Row) ∧ PInv [] ([] : List Row).length ps' := ⟨_, rfl, pinv0 []⟩
          rw [← hps'] at hb2
          obtain ⟨H3, rfl⟩ : ∃ H3, H3 = H2 := ⟨_, rfl⟩
          have hb3 := hb2
          obtain ⟨cl, hcl⟩ : ∃ cl : Cl, cl = [] := ⟨_, rfl⟩
          rw [← hcl]
          have hbk := back_loop0 id ps' hps.len 5 0 [] H3 cl rfl (Nat.zero_le _) hb3 (by rw [List.take_zero])
          refine L_mono hbk ?_
          rintro e env H4 sl cl4 ⟨rfl, rfl, rfl, rfl, v12, v73, rfl⟩
          obtain ⟨E, cl2, F, cl3, hE, hF⟩ := parted_calls ho hl hps hb3 cl4
          obtain ⟨E5, hE5⟩ := same_spec19 (x := built 39 (([] : List Row).map Row.enc)) (y := .nils) (l := ([] : List Row)) (built_isL _ _) (.inl ⟨rfl, rfl⟩) (by omega) ((H4 ++ E) ++ F) cl3
          obtain ⟨E6, hE6⟩ := same_spec19 (x := built 39 (([] : List Row).map Row.enc)) (y := .nils) (l := ([] : List Row)) (built_isL _ _) (.inl ⟨rfl, rfl⟩) (by omega) (((H4 ++ E) ++ F) ++ E5) cl3
          refine And.intro rfl (Exists.intro _ (Exists.intro _ (Exists.intro _ (And.intro hE ?_))))
          refine And.intro rfl (Exists.intro _ (Exists.intro _ (Exists.intro _ (And.intro hF ?_))))
          refine And.intro (fun _ => ?_) (fun h => by cases h)
          refine And.intro (fun _ => ?_) (fun h => by cases h)
          refine And.intro rfl (Exists.intro _ (Exists.intro _ (Exists.intro _ (And.intro hE5 ?_))))
          refine And.intro (fun _ => ?_) (fun h => by cases h)
          refine And.intro rfl (Exists.intro _ (Exists.intro _ (Exists.intro _ (And.intro hE6 ?_))))
          refine And.intro (fun _ => ?_) (fun h => by cases h)
          refine And.intro rfl (Exists.intro _ (Exists.intro _ (Exists.intro _ (And.intro (awake_spec _ _) ?_))))
          exact Exists.intro _ (And.intro rfl rfl)
        | cons a0 as0 =>
          rw [hat] at hE1
          refine And.intro (fun h => by cases h) (fun _ => ?_)
          refine And.intro rfl (Exists.intro _ (Exists.intro _ (Exists.intro _ (And.intro hE1 ?_))))
          refine And.intro (fun h => by cases h) (fun _ => ?_)
          have hnone := none_loop01 (ws.map (AV.int .i64)) sz ([] ++ E1) 5 0 .nils ([] ++ E1) rfl (Nat.zero_le _) (Pf.refl _) (.inl ⟨rfl, rfl⟩)
          refine L_mono hnone ?_
          rintro e env H2 sl cl ⟨rfl, rfl, rfl, hp2, id, v9, v34, hid, hb2, rfl⟩
          rw [← map0] at hb2
          refine L_round ?_
          refine And.intro (fun h => by cases h) (fun _ => ?_)
          obtain ⟨ps', hps', hps⟩ : ∃ ps', ps' = List.replicate 5 ([] : List Row) ∧ PInv [] ([] : List Row).length ps' := ⟨_, rfl, pinv0 []⟩
          rw [← hps'] at hb2
          obtain ⟨H3, rfl⟩ : ∃ H3, H3 = H2 := ⟨_, rfl⟩
          have hb3 := hb2
          obtain ⟨cl, hcl⟩ : ∃ cl : Cl, cl = [] := ⟨_, rfl⟩
          rw [← hcl]
          have hbk := back_loop0 id ps' hps.len 5 0 [] H3 cl rfl (Nat.zero_le _) hb3 (by rw [List.take_zero])
          refine L_mono hbk ?_
          rintro e env H4 sl cl4 ⟨rfl, rfl, rfl, rfl, v12, v73, rfl⟩
          obtain ⟨E, cl2, F, cl3, hE, hF⟩ := parted_calls ho hl hps hb3 cl4
          obtain ⟨E5, hE5⟩ := same_spec19 (x := built 39 (([] : List Row).map Row.enc)) (y := .nils) (l := ([] : List Row)) (built_isL _ _) (.inl ⟨rfl, rfl⟩) (by omega) ((H4 ++ E) ++ F) cl3
          obtain ⟨E6, hE6⟩ := same_spec19 (x := built 39 (([] : List Row).map Row.enc)) (y := .nils) (l := ([] : List Row)) (built_isL _ _) (.inl ⟨rfl, rfl⟩) (by omega) (((H4 ++ E) ++ F) ++ E5) cl3
          refine And.intro rfl (Exists.intro _ (Exists.intro _ (Exists.intro _ (And.intro hE ?_))))
          refine And.intro rfl (Exists.intro _ (Exists.intro _ (Exists.intro _ (And.intro hF ?_))))
          refine And.intro (fun _ => ?_) (fun h => by cases h)
          refine And.intro (fun _ => ?_) (fun h => by cases h)
          refine And.intro rfl (Exists.intro _ (Exists.intro _ (Exists.intro _ (And.intro hE5 ?_))))
          refine And.intro (fun _ => ?_) (fun h => by cases h)
          refine And.intro rfl (Exists.intro _ (Exists.intro _ (Exists.intro _ (And.intro hE6 ?_))))
          refine And.intro (fun _ => ?_) (fun h => by cases h)
          refine And.intro rfl (Exists.intro _ (Exists.intro _ (Exists.intro _ (And.intro (awake_spec _ _) ?_))))
          exact Exists.intro _ (And.intro rfl rfl)
    · rcases hz with ⟨rfl, rfl⟩ | ⟨sz, rfl⟩
      · cases hat : atP l 0 with
        | nil =>
          rw [hat] at hE1
          refine And.intro (fun h => by
            exfalso
            have h := dec_true (p := ((l.map Row.enc).length : Int) > 100) h
            rw [List.length_map] at h
            omega) (fun _ => ?_)
          refine And.intro rfl (Exists.intro _ (Exists.intro _ (Exists.intro _ (And.intro hE1 ?_))))
          refine And.intro (fun h => by cases h) (fun _ => ?_)
          have hnone := none_loop10 (l.map Row.enc) sp ([] ++ E1) 5 0 .nils ([] ++ E1) rfl (Nat.zero_le _) (Pf.refl _) (.inl ⟨rfl, rfl⟩)
          refine L_mono hnone ?_
          rintro e env H2 sl cl ⟨rfl, rfl, rfl, hp2, id, v9, v34, hid, hb2, rfl⟩
          rw [← map0] at hb2
          refine L_mono (put_loop l sp hl (.inl ⟨rfl, rfl⟩) ([] ++ E1) id hid l.length 0 (List.replicate 5 []) H2 [] rfl (Nat.zero_le _) hp2 (pinv0 l) hb2 (ends0 id)) ?_
          rintro e env H3 sl cl ⟨rfl, rfl, hp3, ps', v10, v43, hps, hb3, rfl⟩
          clear hat hnone ha hE1
          cases l with
          | nil =>
            have hbk := back_loop1 (([] : List Row).map Row.enc) sp id ps' hps.len 5 0 [] H3 cl rfl (Nat.zero_le _) hb3 (by rw [List.take_zero])
            refine L_mono hbk ?_
            rintro e env H4 sl cl4 ⟨rfl, rfl, rfl, rfl, v12, v73, rfl⟩
            obtain ⟨E, cl2, F, cl3, hE, hF⟩ := parted_calls ho hl hps hb3 cl4
            obtain ⟨E5, hE5⟩ := same_spec19 (x := built 39 (([] : List Row).map Row.enc)) (y := .lst 39 (([] : List Row).map Row.enc) sp) (l := ([] : List Row)) (built_isL _ _) (.inr ⟨sp, rfl⟩) (by omega) ((H4 ++ E) ++ F) cl3
            obtain ⟨E6, hE6⟩ := same_spec19 (x := built 39 (([] : List Row).map Row.enc)) (y := .lst 39 (([] : List Row).map Row.enc) sp) (l := ([] : List Row)) (built_isL _ _) (.inr ⟨sp, rfl⟩) (by omega) (((H4 ++ E) ++ F) ++ E5) cl3
            refine And.intro rfl (Exists.intro _ (Exists.intro _ (Exists.intro _ (And.intro hE ?_))))
            refine And.intro rfl (Exists.intro _ (Exists.intro _ (Exists.intro _ (And.intro hF ?_))))
            refine And.intro (fun _ => ?_) (fun h => by cases h)
            refine And.intro (fun _ => ?_) (fun h => by cases h)
            refine And.intro rfl (Exists.intro _ (Exists.intro _ (Exists.intro _ (And.intro hE5 ?_))))
            refine And.intro (fun _ => ?_) (fun h => by cases h)
            refine And.intro rfl (Exists.intro _ (Exists.intro _ (Exists.intro _ (And.intro hE6 ?_))))
            refine And.intro (fun _ => ?_) (fun h => by cases h)
            refine And.intro rfl (Exists.intro _ (Exists.intro _ (Exists.intro _ (And.intro (awake_spec _ _) ?_))))
            exact Exists.intro _ (And.intro rfl rfl)
          | cons r0 l =>
            have hl : (r0 :: l).length ≤ 100 := hl
            have hbk := back_loop1 ((r0 :: l).map Row.enc) sp id ps' hps.len 5 0 [] H3 cl rfl (Nat.zero_le _) hb3 (by rw [List.take_zero])
            refine L_mono hbk ?_
            rintro e env H4 sl cl4 ⟨rfl, rfl, rfl, rfl, v12, v73, rfl⟩
            obtain ⟨E, cl2, F, cl3, hE, hF⟩ := parted_calls ho hl hps hb3 cl4
            obtain ⟨E5, hE5⟩ := same_spec19 (x := built 39 ((r0 :: l).map Row.enc)) (y := .lst 39 ((r0 :: l).map Row.enc) sp) (l := (r0 :: l)) (built_isL _ _) (.inr ⟨sp, rfl⟩) (by omega) ((H4 ++ E) ++ F) cl3
            obtain ⟨E6, hE6⟩ := same_spec19 (x := built 39 ((r0 :: l).map Row.enc)) (y := .lst 39 ((r0 :: l).map Row.enc) sp) (l := (r0 :: l)) (built_isL _ _) (.inr ⟨sp, rfl⟩) (by omega) (((H4 ++ E) ++ F) ++ E5) cl3
            refine And.intro rfl (Exists.intro _ (Exists.intro _ (Exists.intro _ (And.intro hE ?_))))
            refine And.intro rfl (Exists.intro _ (Exists.intro _ (Exists.intro _ (And.intro hF ?_))))
            refine And.intro (fun _ => ?_) (fun h => by cases h)
            refine And.intro (fun _ => ?_) (fun h => by cases h)
            refine And.intro rfl (Exists.intro _ (Exists.intro _ (Exists.intro _ (And.intro hE5 ?_))))
            refine And.intro (fun _ => ?_) (fun h => by cases h)
            refine And.intro rfl (Exists.intro _ (Exists.intro _ (Exists.intro _ (And.intro hE6 ?_))))
            refine And.intro (fun _ => ?_) (fun h => by cases h)
            refine And.intro rfl (Exists.intro _ (Exists.intro _ (Exists.intro _ (And.intro (awake_spec _ _) ?_))))
            exact Exists.intro _ (And.intro rfl rfl)
        | cons a0 as0 =>
          rw [hat] at hE1
          refine And.intro (fun h => by
            exfalso
            have h := dec_true (p := ((l.map Row.enc).length : Int) > 100) h
            rw [List.length_map] at h
            omega) (fun _ => ?_)
          refine And.intro rfl (Exists.intro _ (Exists.intro _ (Exists.intro _ (And.intro hE1 ?_))))
          refine And.intro (fun h => by cases h) (fun _ => ?_)
          have hnone := none_loop10 (l.map Row.enc) sp ([] ++ E1) 5 0 .nils ([] ++ E1) rfl (Nat.zero_le _) (Pf.refl _) (.inl ⟨rfl, rfl⟩)
          refine L_mono hnone ?_
          rintro e env H2 sl cl ⟨rfl, rfl, rfl, hp2, id, v9, v34, hid, hb2, rfl⟩
          rw [← map0] at hb2
          refine L_mono (put_loop l sp hl (.inl ⟨rfl, rfl⟩) ([] ++ E1) id hid l.length 0 (List.replicate 5 []) H2 [] rfl (Nat.zero_le _) hp2 (pinv0 l) hb2 (ends0 id)) ?_
          rintro e env H3 sl cl ⟨rfl, rfl, hp3, ps', v10, v43, hps, hb3, rfl⟩
          clear hat hnone ha hE1
          cases l with
          | nil =>
            have hbk := back_loop1 (([] : List Row).map Row.enc) sp id ps' hps.len 5 0 [] H3 cl rfl (Nat.zero_le _) hb3 (by rw [List.take_zero])
            refine L_mono hbk ?_
            rintro e env H4 sl cl4 ⟨rfl, rfl, rfl, rfl, v12, v73, rfl⟩
            obtain ⟨E, cl2, F, cl3, hE, hF⟩ := parted_calls ho hl hps hb3 cl4
            obtain ⟨E5, hE5⟩ := same_spec19 (x := built 39 (([] : List Row).map Row.enc)) (y := .lst 39 (([] : List Row).map Row.enc) sp) (l := ([] : List Row)) (built_isL _ _) (.inr ⟨sp, rfl⟩) (by omega) ((H4 ++ E) ++ F) cl3
            obtain ⟨E6, hE6⟩ := same_spec19 (x := built 39 (([] : List Row).map Row.enc)) (y := .lst 39 (([] : List Row).map Row.enc) sp) (l := ([] : List Row)) (built_isL _ _) (.inr ⟨sp, rfl⟩) (by omega) (((H4 ++ E) ++ F) ++ E5) cl3
            refine And.intro rfl (Exists.intro _ (Exists.intro _ (Exists.intro _ (And.intro hE ?_))))
            refine And.intro rfl (Exists.intro _ (Exists.intro _ (Exists.intro _ (And.intro hF ?_))))
            refine And.intro (fun _ => ?_) (fun h => by cases h)
            refine And.intro (fun _ => ?_) (fun h => by cases h)
            refine And.intro rfl (Exists.intro _ (Exists.intro _ (Exists.intro _ (And.intro hE5 ?_))))
            refine And.intro (fun _ => ?_) (fun h => by cases h)
            refine And.intro rfl (Exists.intro _ (Exists.intro _ (Exists.intro _ (And.intro hE6 ?_))))
            refine And.intro (fun _ => ?_) (fun h => by cases h)
            refine And.intro rfl (Exists.intro _ (Exists.intro _ (Exists.intro _ (And.intro (awake_spec _ _) ?_))))
            exact Exists.intro _ (And.intro rfl rfl)
          | cons r0 l =>
            have hl : (r0 :: l).length ≤ 100 := hl
            have hbk := back_loop1 ((r0 :: l).map Row.enc) sp id ps' hps.len 5 0 [] H3 cl rfl (Nat.zero_le _) hb3 (by rw [List.take_zero])
            refine L_mono hbk ?_
            rintro e env H4 sl cl4 ⟨rfl, rfl, rfl, rfl, v12, v73, rfl⟩
            obtain ⟨E, cl2, F, cl3, hE, hF⟩ := parted_calls ho hl hps hb3 cl4
            obtain ⟨E5, hE5⟩ := same_spec19 (x := built 39 ((r0 :: l).map Row.enc)) (y := .lst 39 ((r0 :: l).map Row.enc) sp) (l := (r0 :: l)) (built_isL _ _) (.inr ⟨sp, rfl⟩) (by omega) ((H4 ++ E) ++ F) cl3
            obtain ⟨E6, hE6⟩ := same_spec19 (x := built 39 ((r0 :: l).map Row.enc)) (y := .lst 39 ((r0 :: l).map Row.enc) sp) (l := (r0 :: l)) (built_isL _ _) (.inr ⟨sp, rfl⟩) (by omega) (((H4 ++ E) ++ F) ++ E5) cl3
            refine And.intro rfl (Exists.intro _ (Exists.intro _ (Exists.intro _ (And.intro hE ?_))))
            refine And.intro rfl (Exists.intro _ (Exists.intro _ (Exists.intro _ (And.intro hF ?_))))
            refine And.intro (fun _ => ?_) (fun h => by cases h)
            refine And.intro (fun _ => ?_) (fun h => by cases h)
            refine And.intro rfl (Exists.intro _ (Exists.intro _ (Exists.intro _ (And.intro hE5 ?_))))
            refine And.intro (fun _ => ?_) (fun h => by cases h)
            refine And.intro rfl (Exists.intro _ (Exists.intro _ (Exists.intro _ (And.intro hE6 ?_))))
            refine And.intro (fun _ => ?_) (fun h => by cases h)
            refine And.intro rfl (Exists.intro _ (Exists.intro _ (Exists.intro _ (And.intro (awake_spec _ _) ?_))))
            exact Exists.intro _ (And.intro rfl rfl)
      · cases hat : atP l 0 with
        | nil =>
          rw [hat] at hE1
          refine And.intro (fun h => by
            exfalso
            have h := dec_true (p := ((l.map Row.enc).length : Int) > 100) h
            rw [List.length_map] at h
            omega) (fun _ => ?_)
          refine And.intro rfl (Exists.intro _ (Exists.intro _ (Exists.intro _ (And.intro hE1 ?_))))
          refine And.intro (fun h => by cases h) (fun _ => ?_)
          have hnone := none_loop11 (l.map Row.enc) sp (ws.map (AV.int .i64)) sz ([] ++ E1) 5 0 .nils ([] ++ E1) rfl (Nat.zero_le _) (Pf.refl _) (.inl ⟨rfl, rfl⟩)
          refine L_mono hnone ?_
          rintro e env H2 sl cl ⟨rfl, rfl, rfl, hp2, id, v9, v34, hid, hb2, rfl⟩
          rw [← map0] at hb2
          refine L_mono (put_loop l sp hl (.inr ⟨sz, rfl⟩) ([] ++ E1) id hid l.length 0 (List.replicate 5 []) H2 [] rfl (Nat.zero_le _) hp2 (pinv0 l) hb2 (ends0 id)) ?_
          rintro e env H3 sl cl ⟨rfl, rfl, hp3, ps', v10, v43, hps, hb3, rfl⟩
          clear hat hnone ha hE1
          cases l with
          | nil =>
            have hbk := back_loop1 (([] : List Row).map Row.enc) sp id ps' hps.len 5 0 [] H3 cl rfl (Nat.zero_le _) hb3 (by rw [List.take_zero])
            refine L_mono hbk ?_
            rintro e env H4 sl cl4 ⟨rfl, rfl, rfl, rfl, v12, v73, rfl⟩
            obtain ⟨E, cl2, F, cl3, hE, hF⟩ := parted_calls ho hl hps hb3 cl4
            obtain ⟨E5, hE5⟩ := same_spec19 (x := built 39 (([] : List Row).map Row.enc)) (y := .lst 39 (([] : List Row).map Row.enc) sp) (l := ([] : List Row)) (built_isL _ _) (.inr ⟨sp, rfl⟩) (by omega) ((H4 ++ E) ++ F) cl3
            obtain ⟨E6, hE6⟩ := same_spec19 (x := built 39 (([] : List Row).map Row.enc)) (y := .lst 39 (([] : List Row).map Row.enc) sp) (l := ([] : List Row)) (built_isL _ _) (.inr ⟨sp, rfl⟩) (by omega) (((H4 ++ E) ++ F) ++ E5) cl3
            refine And.intro rfl (Exists.intro _ (Exists.intro _ (Exists.intro _ (And.intro hE ?_))))
            refine And.intro rfl (Exists.intro _ (Exists.intro _ (Exists.intro _ (And.intro hF ?_))))
            refine And.intro (fun _ => ?_) (fun h => by cases h)
            refine And.intro (fun _ => ?_) (fun h => by cases h)
            refine And.intro rfl (Exists.intro _ (Exists.intro _ (Exists.intro _ (And.intro hE5 ?_))))
            refine And.intro (fun _ => ?_) (fun h => by cases h)
            refine And.intro rfl (Exists.intro _ (Exists.intro _ (Exists.intro _ (And.intro hE6 ?_))))
            refine And.intro (fun _ => ?_) (fun h => by cases h)
            refine And.intro rfl (Exists.intro _ (Exists.intro _ (Exists.intro _ (And.intro (awake_spec _ _) ?_))))
            exact Exists.intro _ (And.intro rfl rfl)
          | cons r0 l =>
            have hl : (r0 :: l).length ≤ 100 := hl
            have hbk := back_loop1 ((r0 :: l).map Row.enc) sp id ps' hps.len 5 0 [] H3 cl rfl (Nat.zero_le _) hb3 (by rw [List.take_zero])
            refine L_mono hbk ?_
            rintro e env H4 sl cl4 ⟨rfl, rfl, rfl, rfl, v12, v73, rfl⟩
            obtain ⟨E, cl2, F, cl3, hE, hF⟩ := parted_calls ho hl hps hb3 cl4
            obtain ⟨E5, hE5⟩ := same_spec19 (x := built 39 ((r0 :: l).map Row.enc)) (y := .lst 39 ((r0 :: l).map Row.enc) sp) (l := (r0 :: l)) (built_isL _ _) (.inr ⟨sp, rfl⟩) (by omega) ((H4 ++ E) ++ F) cl3
            obtain ⟨E6, hE6⟩ := same_spec19 (x := built 39 ((r0 :: l).map Row.enc)) (y := .lst 39 ((r0 :: l).map Row.enc) sp) (l := (r0 :: l)) (built_isL _ _) (.inr ⟨sp, rfl⟩) (by omega) (((H4 ++ E) ++ F) ++ E5) cl3
            refine And.intro rfl (Exists.intro _ (Exists.intro _ (Exists.intro _ (And.intro hE ?_))))
            refine And.intro rfl (Exists.intro _ (Exists.intro _ (Exists.intro _ (And.intro hF ?_))))
            refine And.intro (fun _ => ?_) (fun h => by cases h)
            refine And.intro (fun _ => ?_) (fun h => by cases h)
            refine And.intro rfl (Exists.intro _ (Exists.intro _ (Exists.intro _ (And.intro hE5 ?_))))
            refine And.intro (fun _ => ?_) (fun h => by cases h)
            refine And.intro rfl (Exists.intro _ (Exists.intro _ (Exists.intro _ (And.intro hE6 ?_))))
            refine And.intro (fun _ => ?_) (fun h => by cases h)
            refine And.intro rfl (Exists.intro _ (Exists.intro _ (Exists.intro _ (And.intro (awake_spec _ _) ?_))))
            exact Exists.intro _ (And.intro rfl rfl)
        | cons a0 as0 =>
          rw [hat] at hE1
          refine And.intro (fun h => by
            exfalso
            have h := dec_true (p := ((l.map Row.enc).length : Int) > 100) h
            rw [List.length_map] at h
            omega) (fun _ => ?_)
          refine And.intro rfl (Exists.intro _ (Exists.intro _ (Exists.intro _ (And.intro hE1 ?_))))
          refine And.intro (fun h => by cases h) (fun _ => ?_)
          have hnone := none_loop11 (l.map Row.enc) sp (ws.map (AV.int .i64)) sz ([] ++ E1) 5 0 .nils ([] ++ E1) rfl (Nat.zero_le _) (Pf.refl _) (.inl ⟨rfl, rfl⟩)
          refine L_mono hnone ?_
          rintro e env H2 sl cl ⟨rfl, rfl, rfl, hp2, id, v9, v34, hid, hb2, rfl⟩
          rw [← map0] at hb2
          refine L_mono (put_loop l sp hl (.inr ⟨sz, rfl⟩) ([] ++ E1) id hid l.length 0 (List.replicate 5 []) H2 [] rfl (Nat.zero_le _) hp2 (pinv0 l) hb2 (ends0 id)) ?_
          rintro e env H3 sl cl ⟨rfl, rfl, hp3, ps', v10, v43, hps, hb3, rfl⟩
          clear hat hnone ha hE1
          cases l with
          | nil =>
            have hbk := back_loop1 (([] : List Row).map Row.enc) sp id ps' hps.len 5 0 [] H3 cl rfl (Nat.zero_le _) hb3 (by rw [List.take_zero])
            refine L_mono hbk ?_
            rintro e env H4 sl cl4 ⟨rfl, rfl, rfl, rfl, v12, v73, rfl⟩
            obtain ⟨E, cl2, F, cl3, hE, hF⟩ := parted_calls ho hl hps hb3 cl4
            obtain ⟨E5, hE5⟩ := same_spec19 (x := built 39 (([] : List Row).map Row.enc)) (y := .lst 39 (([] : List Row).map Row.enc) sp) (l := ([] : List Row)) (built_isL _ _) (.inr ⟨sp, rfl⟩) (by omega) ((H4 ++ E) ++ F) cl3
            obtain ⟨E6, hE6⟩ := same_spec19 (x := built 39 (([] : List Row).map Row.enc)) (y := .lst 39 (([] : List Row).map Row.enc) sp) (l := ([] : List Row)) (built_isL _ _) (.inr ⟨sp, rfl⟩) (by omega) (((H4 ++ E) ++ F) ++ E5) cl3
            refine And.intro rfl (Exists.intro _ (Exists.intro _ (Exists.intro _ (And.intro hE ?_))))
            refine And.intro rfl (Exists.intro _ (Exists.intro _ (Exists.intro _ (And.intro hF ?_))))
            refine And.intro (fun _ => ?_) (fun h => by cases h)
            refine And.intro (fun _ => ?_) (fun h => by cases h)
            refine And.intro rfl (Exists.intro _ (Exists.intro _ (Exists.intro _ (And.intro hE5 ?_))))
            refine And.intro (fun _ => ?_) (fun h => by cases h)
            refine And.intro rfl (Exists.intro _ (Exists.intro _ (Exists.intro _ (And.intro hE6 ?_))))
            refine And.intro (fun _ => ?_) (fun h => by cases h)
            refine And.intro rfl (Exists.intro _ (Exists.intro _ (Exists.intro _ (And.intro (awake_spec _ _) ?_))))
            exact Exists.intro _ (And.intro rfl rfl)
          | cons r0 l =>
            have hl : (r0 :: l).length ≤ 100 := hl
            have hbk := back_loop1 ((r0 :: l).map Row.enc) sp id ps' hps.len 5 0 [] H3 cl rfl (Nat.zero_le _) hb3 (by rw [List.take_zero])
            refine L_mono hbk ?_
            rintro e env H4 sl cl4 ⟨rfl, rfl, rfl, rfl, v12, v73, rfl⟩
            obtain ⟨E, cl2, F, cl3, hE, hF⟩ := parted_calls ho hl hps hb3 cl4
            obtain ⟨E5, hE5⟩ := same_spec19 (x := built 39 ((r0 :: l).map Row.enc)) (y := .lst 39 ((r0 :: l).map Row.enc) sp) (l := (r0 :: l)) (built_isL _ _) (.inr ⟨sp, rfl⟩) (by omega) ((H4 ++ E) ++ F) cl3
            obtain ⟨E6, hE6⟩ := same_spec19 (x := built 39 ((r0 :: l).map Row.enc)) (y := .lst 39 ((r0 :: l).map Row.enc) sp) (l := (r0 :: l)) (built_isL _ _) (.inr ⟨sp, rfl⟩) (by omega) (((H4 ++ E) ++ F) ++ E5) cl3
            refine And.intro rfl (Exists.intro _ (Exists.intro _ (Exists.intro _ (And.intro hE ?_))))
            refine And.intro rfl (Exists.intro _ (Exists.intro _ (Exists.intro _ (And.intro hF ?_))))
            refine And.intro (fun _ => ?_) (fun h => by cases h)
            refine And.intro (fun _ => ?_) (fun h => by cases h)
            refine And.intro rfl (Exists.intro _ (Exists.intro _ (Exists.intro _ (And.intro hE5 ?_))))
            refine And.intro (fun _ => ?_) (fun h => by cases h)
            refine And.intro rfl (Exists.intro _ (Exists.intro _ (Exists.intro _ (And.intro hE6 ?_))))
            refine And.intro (fun _ => ?_) (fun h => by cases h)
            refine And.intro rfl (Exists.intro _ (Exists.intro _ (Exists.intro _ (And.intro (awake_spec _ _) ?_))))
            exact Exists.intro _ (And.intro rfl rfl)
end Go.Proofs.Ytnajopkaepjncaa

/- What comes in: whole numbers in a list. -/
namespace Go.Proofs.Ytnajopkaepjncaa
open Am
set_option linter.unusedVariables false

abbrev intsTy : Ty := .slice 3 false (.int .i64)
theorem ty45 : tyOf Try.prog 5 45 = some intsTy := by kernel_rfl
theorem ints_of (d : intsTy.den) : ∃ ws, IsInts ((intsTy.enc d).headD .undef) ws := by
  cases d with
  | none => exact ⟨[], .inl ⟨rfl, rfl⟩⟩
  | some p =>
    refine ⟨p.1.1.map fun d => d.1, .inr ⟨p.1.2.map fun d => elt false ((Ty.int .i64).enc d), ?_⟩⟩
    show AV.lst 3 _ _ = AV.lst 3 _ _
    rw [List.map_map]; rfl
end Go.Proofs.Ytnajopkaepjncaa
