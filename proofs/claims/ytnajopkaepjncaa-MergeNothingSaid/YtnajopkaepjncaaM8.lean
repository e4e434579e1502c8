/- What nobody needs changes nothing: the walk through the law's own function, fourth way, part 2. -/
import Derived.Test.YtnajopkaepjncaaM6
/- What nobody needs changes nothing: the walk through the law's own function, fourth way, part 2. -/
namespace Go.Proofs.Ytnajopkaepjncaa
open Am
set_option linter.unusedVariables false
set_option maxRecDepth 8000
set_option maxHeartbeats 8000000

theorem mid4b (H0 E1 E2 E3 : Hp) {x y z vo : AV} {l o ol : List Row} {ms : List Int} (hx : IsRows x l) (hy : IsRows y o) (hz : IsMarks z ms) (hvo : IsOut vo ol) (bot : Bool) (rest : Env) (hmm : More H0 (((H0 ++ E1) ++ E2) ++ E3)) (hE2 : CallsA Try.prog K0 24 [y, x] (H0 ++ E1) [] vo ((H0 ++ E1) ++ E2) []) {vf v12 : AV} {fl : List Row} {ps : List AV} (sf : List AV) (hf : vf = .lst 39 (fl.map Row.enc) sf) (hv : IsL 41 v12 ps) (hE1 : CallsA Try.prog K0 17 [x, z, .bool bot] H0 [] (.tup [vf, .int .i64 0]) (H0 ++ E1) []) (hE3 : CallsA Try.prog K0 13 [vo, .int .u64 0] ((H0 ++ E1) ++ E2) [] (.tup [v12, .int .i64 0]) (((H0 ++ E1) ++ E2) ++ E3) [])
    (ends : ∀ rest, (bot = true → cC Try.prog K0 (K0.vars 9) 147 c9e ((0, x) :: (2, z) :: (9, vf) :: (11, .nils) :: rest) (((H0 ++ E1) ++ E2) ++ E3) [] [] fun e env' H1 sl cl => match e with
      | .exit _ => False
      | _ => ∃ x, resA2 Try.prog ⟨env', H1, [], []⟩ Try.f9.results.toList = some x ∧ x = .bool true ∧ More H0 H1 ∧ cl = []) ∧ (bot = false → cC Try.prog K0 (K0.vars 9) 147 c9e ((0, x) :: (2, z) :: (9, vf) :: (11, vo) :: rest) (((H0 ++ E1) ++ E2) ++ E3) [] [] fun e env' H1 sl cl => match e with
      | .exit _ => False
      | _ => ∃ x, resA2 Try.prog ⟨env', H1, [], []⟩ Try.f9.results.toList = some x ∧ x = .bool true ∧ More H0 H1 ∧ cl = []))
    (hnl : bot = true → ∀ sf, L Try.prog K0 (K0.vars 9) 147 c9a [(0, x), (2, z), (9, .lst 39 (fl.map Row.enc) sf), (11, .nils), (14, .int .i64 ((0 : Nat) : Int))] (((H0 ++ E1) ++ E2) ++ E3) [] [] fun e env H' sl cl => H' = (((H0 ++ E1) ++ E2) ++ E3) ∧ cl = [] ∧ sl = [] ∧ e = .exit 0 ∧ ∃ v14 v69, env = [(0, x), (2, z), (9, .lst 39 (fl.map Row.enc) sf), (11, .nils), (14, v14), (69, v69)]) : cC Try.prog K0 (K0.vars 9) 147 c9m ((0, x) :: (1, y) :: (2, z) :: (3, .bool bot) :: rest) H0 [] [] fun e env' H1 sl cl => match e with
      | .exit _ => False
      | _ => ∃ x, resA2 Try.prog ⟨env', H1, [], []⟩ Try.f9.results.toList = some x ∧ x = .bool true ∧ More H0 H1 ∧ cl = [] := by
  subst hf
  rcases hx with ⟨rfl, _⟩ | ⟨_, rfl⟩ <;> rcases hy with ⟨rfl, _⟩ | ⟨_, rfl⟩ <;> rcases hz with ⟨rfl, _⟩ | ⟨_, rfl⟩ <;> rcases hvo with ⟨rfl, _⟩ | rfl <;> rcases hv with ⟨rfl, _⟩ | ⟨_, rfl⟩
  · refine And.intro rfl (Exists.intro _ (Exists.intro _ (Exists.intro _ (And.intro hE1 ?_))))
    refine And.intro rfl (Exists.intro _ (Exists.intro _ (Exists.intro _ (And.intro hE2 ?_))))
    refine And.intro rfl (Exists.intro _ (Exists.intro _ (Exists.intro _ (And.intro hE3 ?_))))
    refine And.intro (fun h => by cases h) (fun _ => ?_)
    refine And.intro (fun h => by cases h) (fun _ => ?_)
    refine And.intro (fun hb => ?_) (fun hb => ?_)
    · refine L_mono (hnl hb sf) ?_
      rintro e env H' sl cl ⟨rfl, rfl, rfl, rfl, v14, v69, rfl⟩
      have hend := (ends [(14, v14), (69, v69)]).1 hb
      exact And.intro (And.left hend) (And.right hend)
    · have hend := (ends [(65, .bool false)]).2 hb
      exact And.intro (And.left hend) (And.right hend)
  · refine And.intro rfl (Exists.intro _ (Exists.intro _ (Exists.intro _ (And.intro hE1 ?_))))
    refine And.intro rfl (Exists.intro _ (Exists.intro _ (Exists.intro _ (And.intro hE2 ?_))))
    refine And.intro rfl (Exists.intro _ (Exists.intro _ (Exists.intro _ (And.intro hE3 ?_))))
    refine And.intro (fun h => by cases h) (fun _ => ?_)
    refine And.intro (fun h => by cases h) (fun _ => ?_)
    refine And.intro (fun hb => ?_) (fun hb => ?_)
    · refine L_mono (hnl hb sf) ?_
      rintro e env H' sl cl ⟨rfl, rfl, rfl, rfl, v14, v69, rfl⟩
      have hend := (ends [(14, v14), (69, v69)]).1 hb
      exact And.intro (And.left hend) (And.right hend)
    · have hend := (ends [(65, .bool false)]).2 hb
      exact And.intro (And.left hend) (And.right hend)
  · refine And.intro rfl (Exists.intro _ (Exists.intro _ (Exists.intro _ (And.intro hE1 ?_))))
    refine And.intro rfl (Exists.intro _ (Exists.intro _ (Exists.intro _ (And.intro hE2 ?_))))
    refine And.intro rfl (Exists.intro _ (Exists.intro _ (Exists.intro _ (And.intro hE3 ?_))))
    refine And.intro (fun h => by cases h) (fun _ => ?_)
    refine And.intro (fun h => by cases h) (fun _ => ?_)
    refine And.intro (fun hb => ?_) (fun hb => ?_)
    · refine L_mono (hnl hb sf) ?_
      rintro e env H' sl cl ⟨rfl, rfl, rfl, rfl, v14, v69, rfl⟩
      have hend := (ends [(14, v14), (69, v69)]).1 hb
      exact And.intro (And.left hend) (And.right hend)
    · have hend := (ends [(65, .bool false)]).2 hb
      exact And.intro (And.left hend) (And.right hend)
  · refine And.intro rfl (Exists.intro _ (Exists.intro _ (Exists.intro _ (And.intro hE1 ?_))))
    refine And.intro rfl (Exists.intro _ (Exists.intro _ (Exists.intro _ (And.intro hE2 ?_))))
    refine And.intro rfl (Exists.intro _ (Exists.intro _ (Exists.intro _ (And.intro hE3 ?_))))
    refine And.intro (fun h => by cases h) (fun _ => ?_)
    refine And.intro (fun h => by cases h) (fun _ => ?_)
    refine And.intro (fun hb => ?_) (fun hb => ?_)
    · refine L_mono (hnl hb sf) ?_
      rintro e env H' sl cl ⟨rfl, rfl, rfl, rfl, v14, v69, rfl⟩
      have hend := (ends [(14, v14), (69, v69)]).1 hb
      exact And.intro (And.left hend) (And.right hend)
    · have hend := (ends [(65, .bool false)]).2 hb
      exact And.intro (And.left hend) (And.right hend)
  · refine And.intro rfl (Exists.intro _ (Exists.intro _ (Exists.intro _ (And.intro hE1 ?_))))
    refine And.intro rfl (Exists.intro _ (Exists.intro _ (Exists.intro _ (And.intro hE2 ?_))))
    refine And.intro rfl (Exists.intro _ (Exists.intro _ (Exists.intro _ (And.intro hE3 ?_))))
    refine And.intro (fun h => by cases h) (fun _ => ?_)
    refine And.intro (fun h => by cases h) (fun _ => ?_)
    refine And.intro (fun hb => ?_) (fun hb => ?_)
    · refine L_mono (hnl hb sf) ?_
      rintro e env H' sl cl ⟨rfl, rfl, rfl, rfl, v14, v69, rfl⟩
      have hend := (ends [(14, v14), (69, v69)]).1 hb
      exact And.intro (And.left hend) (And.right hend)
    · have hend := (ends [(65, .bool false)]).2 hb
      exact And.intro (And.left hend) (And.right hend)
  · refine And.intro rfl (Exists.intro _ (Exists.intro _ (Exists.intro _ (And.intro hE1 ?_))))
    refine And.intro rfl (Exists.intro _ (Exists.intro _ (Exists.intro _ (And.intro hE2 ?_))))
    refine And.intro rfl (Exists.intro _ (Exists.intro _ (Exists.intro _ (And.intro hE3 ?_))))
    refine And.intro (fun h => by cases h) (fun _ => ?_)
    refine And.intro (fun h => by cases h) (fun _ => ?_)
    refine And.intro (fun hb => ?_) (fun hb => ?_)
    · refine L_mono (hnl hb sf) ?_
      rintro e env H' sl cl ⟨rfl, rfl, rfl, rfl, v14, v69, rfl⟩
      have hend := (ends [(14, v14), (69, v69)]).1 hb
      exact And.intro (And.left hend) (And.right hend)
    · have hend := (ends [(65, .bool false)]).2 hb
      exact And.intro (And.left hend) (And.right hend)
  · refine And.intro rfl (Exists.intro _ (Exists.intro _ (Exists.intro _ (And.intro hE1 ?_))))
    refine And.intro rfl (Exists.intro _ (Exists.intro _ (Exists.intro _ (And.intro hE2 ?_))))
    refine And.intro rfl (Exists.intro _ (Exists.intro _ (Exists.intro _ (And.intro hE3 ?_))))
    refine And.intro (fun h => by cases h) (fun _ => ?_)
    refine And.intro (fun h => by cases h) (fun _ => ?_)
    refine And.intro (fun hb => ?_) (fun hb => ?_)
    · refine L_mono (hnl hb sf) ?_
      rintro e env H' sl cl ⟨rfl, rfl, rfl, rfl, v14, v69, rfl⟩
      have hend := (ends [(14, v14), (69, v69)]).1 hb
      exact And.intro (And.left hend) (And.right hend)
    · have hend := (ends [(65, .bool false)]).2 hb
      exact And.intro (And.left hend) (And.right hend)
  · refine And.intro rfl (Exists.intro _ (Exists.intro _ (Exists.intro _ (And.intro hE1 ?_))))
    refine And.intro rfl (Exists.intro _ (Exists.intro _ (Exists.intro _ (And.intro hE2 ?_))))
    refine And.intro rfl (Exists.intro _ (Exists.intro _ (Exists.intro _ (And.intro hE3 ?_))))
    refine And.intro (fun h => by cases h) (fun _ => ?_)
    refine And.intro (fun h => by cases h) (fun _ => ?_)
    refine And.intro (fun hb => ?_) (fun hb => ?_)
    · refine L_mono (hnl hb sf) ?_
      rintro e env H' sl cl ⟨rfl, rfl, rfl, rfl, v14, v69, rfl⟩
      have hend := (ends [(14, v14), (69, v69)]).1 hb
      exact And.intro (And.left hend) (And.right hend)
    · have hend := (ends [(65, .bool false)]).2 hb
      exact And.intro (And.left hend) (And.right hend)
  · refine And.intro rfl (Exists.intro _ (Exists.intro _ (Exists.intro _ (And.intro hE1 ?_))))
    refine And.intro rfl (Exists.intro _ (Exists.intro _ (Exists.intro _ (And.intro hE2 ?_))))
    refine And.intro rfl (Exists.intro _ (Exists.intro _ (Exists.intro _ (And.intro hE3 ?_))))
    refine And.intro (fun h => by cases h) (fun _ => ?_)
    refine And.intro (fun h => by cases h) (fun _ => ?_)
    refine And.intro (fun hb => ?_) (fun hb => ?_)
    · refine L_mono (hnl hb sf) ?_
      rintro e env H' sl cl ⟨rfl, rfl, rfl, rfl, v14, v69, rfl⟩
      have hend := (ends [(14, v14), (69, v69)]).1 hb
      exact And.intro (And.left hend) (And.right hend)
    · have hend := (ends [(65, .bool false)]).2 hb
      exact And.intro (And.left hend) (And.right hend)
  · refine And.intro rfl (Exists.intro _ (Exists.intro _ (Exists.intro _ (And.intro hE1 ?_))))
    refine And.intro rfl (Exists.intro _ (Exists.intro _ (Exists.intro _ (And.intro hE2 ?_))))
    refine And.intro rfl (Exists.intro _ (Exists.intro _ (Exists.intro _ (And.intro hE3 ?_))))
    refine And.intro (fun h => by cases h) (fun _ => ?_)
    refine And.intro (fun h => by cases h) (fun _ => ?_)
    refine And.intro (fun hb => ?_) (fun hb => ?_)
    · refine L_mono (hnl hb sf) ?_
      rintro e env H' sl cl ⟨rfl, rfl, rfl, rfl, v14, v69, rfl⟩
      have hend := (ends [(14, v14), (69, v69)]).1 hb
      exact And.intro (And.left hend) (And.right hend)
    · have hend := (ends [(65, .bool false)]).2 hb
      exact And.intro (And.left hend) (And.right hend)
  · refine And.intro rfl (Exists.intro _ (Exists.intro _ (Exists.intro _ (And.intro hE1 ?_))))
    refine And.intro rfl (Exists.intro _ (Exists.intro _ (Exists.intro _ (And.intro hE2 ?_))))
    refine And.intro rfl (Exists.intro _ (Exists.intro _ (Exists.intro _ (And.intro hE3 ?_))))
    refine And.intro (fun h => by cases h) (fun _ => ?_)
    refine And.intro (fun h => by cases h) (fun _ => ?_)
    refine And.intro (fun hb => ?_) (fun hb => ?_)
    · refine L_mono (hnl hb sf) ?_
      rintro e env H' sl cl ⟨rfl, rfl, rfl, rfl, v14, v69, rfl⟩
      have hend := (ends [(14, v14), (69, v69)]).1 hb
      exact And.intro (And.left hend) (And.right hend)
    · have hend := (ends [(65, .bool false)]).2 hb
      exact And.intro (And.left hend) (And.right hend)
  · refine And.intro rfl (Exists.intro _ (Exists.intro _ (Exists.intro _ (And.intro hE1 ?_))))
    refine And.intro rfl (Exists.intro _ (Exists.intro _ (Exists.intro _ (And.intro hE2 ?_))))
    refine And.intro rfl (Exists.intro _ (Exists.intro _ (Exists.intro _ (And.intro hE3 ?_))))
    refine And.intro (fun h => by cases h) (fun _ => ?_)
    refine And.intro (fun h => by cases h) (fun _ => ?_)
    refine And.intro (fun hb => ?_) (fun hb => ?_)
    · refine L_mono (hnl hb sf) ?_
      rintro e env H' sl cl ⟨rfl, rfl, rfl, rfl, v14, v69, rfl⟩
      have hend := (ends [(14, v14), (69, v69)]).1 hb
      exact And.intro (And.left hend) (And.right hend)
    · have hend := (ends [(65, .bool false)]).2 hb
      exact And.intro (And.left hend) (And.right hend)
  · refine And.intro rfl (Exists.intro _ (Exists.intro _ (Exists.intro _ (And.intro hE1 ?_))))
    refine And.intro rfl (Exists.intro _ (Exists.intro _ (Exists.intro _ (And.intro hE2 ?_))))
    refine And.intro rfl (Exists.intro _ (Exists.intro _ (Exists.intro _ (And.intro hE3 ?_))))
    refine And.intro (fun h => by cases h) (fun _ => ?_)
    refine And.intro (fun h => by cases h) (fun _ => ?_)
    refine And.intro (fun hb => ?_) (fun hb => ?_)
    · refine L_mono (hnl hb sf) ?_
      rintro e env H' sl cl ⟨rfl, rfl, rfl, rfl, v14, v69, rfl⟩
      have hend := (ends [(14, v14), (69, v69)]).1 hb
      exact And.intro (And.left hend) (And.right hend)
    · have hend := (ends [(65, .bool false)]).2 hb
      exact And.intro (And.left hend) (And.right hend)
  · refine And.intro rfl (Exists.intro _ (Exists.intro _ (Exists.intro _ (And.intro hE1 ?_))))
    refine And.intro rfl (Exists.intro _ (Exists.intro _ (Exists.intro _ (And.intro hE2 ?_))))
    refine And.intro rfl (Exists.intro _ (Exists.intro _ (Exists.intro _ (And.intro hE3 ?_))))
    refine And.intro (fun h => by cases h) (fun _ => ?_)
    refine And.intro (fun h => by cases h) (fun _ => ?_)
    refine And.intro (fun hb => ?_) (fun hb => ?_)
    · refine L_mono (hnl hb sf) ?_
      rintro e env H' sl cl ⟨rfl, rfl, rfl, rfl, v14, v69, rfl⟩
      have hend := (ends [(14, v14), (69, v69)]).1 hb
      exact And.intro (And.left hend) (And.right hend)
    · have hend := (ends [(65, .bool false)]).2 hb
      exact And.intro (And.left hend) (And.right hend)
  · refine And.intro rfl (Exists.intro _ (Exists.intro _ (Exists.intro _ (And.intro hE1 ?_))))
    refine And.intro rfl (Exists.intro _ (Exists.intro _ (Exists.intro _ (And.intro hE2 ?_))))
    refine And.intro rfl (Exists.intro _ (Exists.intro _ (Exists.intro _ (And.intro hE3 ?_))))
    refine And.intro (fun h => by cases h) (fun _ => ?_)
    refine And.intro (fun h => by cases h) (fun _ => ?_)
    refine And.intro (fun hb => ?_) (fun hb => ?_)
    · refine L_mono (hnl hb sf) ?_
      rintro e env H' sl cl ⟨rfl, rfl, rfl, rfl, v14, v69, rfl⟩
      have hend := (ends [(14, v14), (69, v69)]).1 hb
      exact And.intro (And.left hend) (And.right hend)
    · have hend := (ends [(65, .bool false)]).2 hb
      exact And.intro (And.left hend) (And.right hend)
  · refine And.intro rfl (Exists.intro _ (Exists.intro _ (Exists.intro _ (And.intro hE1 ?_))))
    refine And.intro rfl (Exists.intro _ (Exists.intro _ (Exists.intro _ (And.intro hE2 ?_))))
    refine And.intro rfl (Exists.intro _ (Exists.intro _ (Exists.intro _ (And.intro hE3 ?_))))
    refine And.intro (fun h => by cases h) (fun _ => ?_)
    refine And.intro (fun h => by cases h) (fun _ => ?_)
    refine And.intro (fun hb => ?_) (fun hb => ?_)
    · refine L_mono (hnl hb sf) ?_
      rintro e env H' sl cl ⟨rfl, rfl, rfl, rfl, v14, v69, rfl⟩
      have hend := (ends [(14, v14), (69, v69)]).1 hb
      exact And.intro (And.left hend) (And.right hend)
    · have hend := (ends [(65, .bool false)]).2 hb
      exact And.intro (And.left hend) (And.right hend)
  · refine And.intro rfl (Exists.intro _ (Exists.intro _ (Exists.intro _ (And.intro hE1 ?_))))
    refine And.intro rfl (Exists.intro _ (Exists.intro _ (Exists.intro _ (And.intro hE2 ?_))))
    refine And.intro rfl (Exists.intro _ (Exists.intro _ (Exists.intro _ (And.intro hE3 ?_))))
    refine And.intro (fun h => by cases h) (fun _ => ?_)
    refine And.intro (fun h => by cases h) (fun _ => ?_)
    refine And.intro (fun hb => ?_) (fun hb => ?_)
    · refine L_mono (hnl hb sf) ?_
      rintro e env H' sl cl ⟨rfl, rfl, rfl, rfl, v14, v69, rfl⟩
      have hend := (ends [(14, v14), (69, v69)]).1 hb
      exact And.intro (And.left hend) (And.right hend)
    · have hend := (ends [(65, .bool false)]).2 hb
      exact And.intro (And.left hend) (And.right hend)
  · refine And.intro rfl (Exists.intro _ (Exists.intro _ (Exists.intro _ (And.intro hE1 ?_))))
    refine And.intro rfl (Exists.intro _ (Exists.intro _ (Exists.intro _ (And.intro hE2 ?_))))
    refine And.intro rfl (Exists.intro _ (Exists.intro _ (Exists.intro _ (And.intro hE3 ?_))))
    refine And.intro (fun h => by cases h) (fun _ => ?_)
    refine And.intro (fun h => by cases h) (fun _ => ?_)
    refine And.intro (fun hb => ?_) (fun hb => ?_)
    · refine L_mono (hnl hb sf) ?_
      rintro e env H' sl cl ⟨rfl, rfl, rfl, rfl, v14, v69, rfl⟩
      have hend := (ends [(14, v14), (69, v69)]).1 hb
      exact And.intro (And.left hend) (And.right hend)
    · have hend := (ends [(65, .bool false)]).2 hb
      exact And.intro (And.left hend) (And.right hend)
  · refine And.intro rfl (Exists.intro _ (Exists.intro _ (Exists.intro _ (And.intro hE1 ?_))))
    refine And.intro rfl (Exists.intro _ (Exists.intro _ (Exists.intro _ (And.intro hE2 ?_))))
    refine And.intro rfl (Exists.intro _ (Exists.intro _ (Exists.intro _ (And.intro hE3 ?_))))
    refine And.intro (fun h => by cases h) (fun _ => ?_)
    refine And.intro (fun h => by cases h) (fun _ => ?_)
    refine And.intro (fun hb => ?_) (fun hb => ?_)
    · refine L_mono (hnl hb sf) ?_
      rintro e env H' sl cl ⟨rfl, rfl, rfl, rfl, v14, v69, rfl⟩
      have hend := (ends [(14, v14), (69, v69)]).1 hb
      exact And.intro (And.left hend) (And.right hend)
    · have hend := (ends [(65, .bool false)]).2 hb
      exact And.intro (And.left hend) (And.right hend)
  · refine And.intro rfl (Exists.intro _ (Exists.intro _ (Exists.intro _ (And.intro hE1 ?_))))
    refine And.intro rfl (Exists.intro _ (Exists.intro _ (Exists.intro _ (And.intro hE2 ?_))))
    refine And.intro rfl (Exists.intro _ (Exists.intro _ (Exists.intro _ (And.intro hE3 ?_))))
    refine And.intro (fun h => by cases h) (fun _ => ?_)
    refine And.intro (fun h => by cases h) (fun _ => ?_)
    refine And.intro (fun hb => ?_) (fun hb => ?_)
    · refine L_mono (hnl hb sf) ?_
      rintro e env H' sl cl ⟨rfl, rfl, rfl, rfl, v14, v69, rfl⟩
      have hend := (ends [(14, v14), (69, v69)]).1 hb
      exact And.intro (And.left hend) (And.right hend)
    · have hend := (ends [(65, .bool false)]).2 hb
      exact And.intro (And.left hend) (And.right hend)
  · refine And.intro rfl (Exists.intro _ (Exists.intro _ (Exists.intro _ (And.intro hE1 ?_))))
    refine And.intro rfl (Exists.intro _ (Exists.intro _ (Exists.intro _ (And.intro hE2 ?_))))
    refine And.intro rfl (Exists.intro _ (Exists.intro _ (Exists.intro _ (And.intro hE3 ?_))))
    refine And.intro (fun h => by cases h) (fun _ => ?_)
    refine And.intro (fun h => by cases h) (fun _ => ?_)
    refine And.intro (fun hb => ?_) (fun hb => ?_)
    · refine L_mono (hnl hb sf) ?_
      rintro e env H' sl cl ⟨rfl, rfl, rfl, rfl, v14, v69, rfl⟩
      have hend := (ends [(14, v14), (69, v69)]).1 hb
      exact And.intro (And.left hend) (And.right hend)
    · have hend := (ends [(65, .bool false)]).2 hb
      exact And.intro (And.left hend) (And.right hend)
  · refine And.intro rfl (Exists.intro _ (Exists.intro _ (Exists.intro _ (And.intro hE1 ?_))))
    refine And.intro rfl (Exists.intro _ (Exists.intro _ (Exists.intro _ (And.intro hE2 ?_))))
    refine And.intro rfl (Exists.intro _ (Exists.intro _ (Exists.intro _ (And.intro hE3 ?_))))
    refine And.intro (fun h => by cases h) (fun _ => ?_)
    refine And.intro (fun h => by cases h) (fun _ => ?_)
    refine And.intro (fun hb => ?_) (fun hb => ?_)
    · refine L_mono (hnl hb sf) ?_
      rintro e env H' sl cl ⟨rfl, rfl, rfl, rfl, v14, v69, rfl⟩
      have hend := (ends [(14, v14), (69, v69)]).1 hb
      exact And.intro (And.left hend) (And.right hend)
    · have hend := (ends [(65, .bool false)]).2 hb
      exact And.intro (And.left hend) (And.right hend)
  · refine And.intro rfl (Exists.intro _ (Exists.intro _ (Exists.intro _ (And.intro hE1 ?_))))
    refine And.intro rfl (Exists.intro _ (Exists.intro _ (Exists.intro _ (And.intro hE2 ?_))))
    refine And.intro rfl (Exists.intro _ (Exists.intro _ (Exists.intro _ (And.intro hE3 ?_))))
    refine And.intro (fun h => by cases h) (fun _ => ?_)
    refine And.intro (fun h => by cases h) (fun _ => ?_)
    refine And.intro (fun hb => ?_) (fun hb => ?_)
    · refine L_mono (hnl hb sf) ?_
      rintro e env H' sl cl ⟨rfl, rfl, rfl, rfl, v14, v69, rfl⟩
      have hend := (ends [(14, v14), (69, v69)]).1 hb
      exact And.intro (And.left hend) (And.right hend)
    · have hend := (ends [(65, .bool false)]).2 hb
      exact And.intro (And.left hend) (And.right hend)
  · refine And.intro rfl (Exists.intro _ (Exists.intro _ (Exists.intro _ (And.intro hE1 ?_))))
    refine And.intro rfl (Exists.intro _ (Exists.intro _ (Exists.intro _ (And.intro hE2 ?_))))
    refine And.intro rfl (Exists.intro _ (Exists.intro _ (Exists.intro _ (And.intro hE3 ?_))))
    refine And.intro (fun h => by cases h) (fun _ => ?_)
    refine And.intro (fun h => by cases h) (fun _ => ?_)
    refine And.intro (fun hb => ?_) (fun hb => ?_)
    · refine L_mono (hnl hb sf) ?_
      rintro e env H' sl cl ⟨rfl, rfl, rfl, rfl, v14, v69, rfl⟩
      have hend := (ends [(14, v14), (69, v69)]).1 hb
      exact And.intro (And.left hend) (And.right hend)
    · have hend := (ends [(65, .bool false)]).2 hb
      exact And.intro (And.left hend) (And.right hend)
  · refine And.intro rfl (Exists.intro _ (Exists.intro _ (Exists.intro _ (And.intro hE1 ?_))))
    refine And.intro rfl (Exists.intro _ (Exists.intro _ (Exists.intro _ (And.intro hE2 ?_))))
    refine And.intro rfl (Exists.intro _ (Exists.intro _ (Exists.intro _ (And.intro hE3 ?_))))
    refine And.intro (fun h => by cases h) (fun _ => ?_)
    refine And.intro (fun h => by cases h) (fun _ => ?_)
    refine And.intro (fun hb => ?_) (fun hb => ?_)
    · refine L_mono (hnl hb sf) ?_
      rintro e env H' sl cl ⟨rfl, rfl, rfl, rfl, v14, v69, rfl⟩
      have hend := (ends [(14, v14), (69, v69)]).1 hb
      exact And.intro (And.left hend) (And.right hend)
    · have hend := (ends [(65, .bool false)]).2 hb
      exact And.intro (And.left hend) (And.right hend)
  · refine And.intro rfl (Exists.intro _ (Exists.intro _ (Exists.intro _ (And.intro hE1 ?_))))
    refine And.intro rfl (Exists.intro _ (Exists.intro _ (Exists.intro _ (And.intro hE2 ?_))))
    refine And.intro rfl (Exists.intro _ (Exists.intro _ (Exists.intro _ (And.intro hE3 ?_))))
    refine And.intro (fun h => by cases h) (fun _ => ?_)
    refine And.intro (fun h => by cases h) (fun _ => ?_)
    refine And.intro (fun hb => ?_) (fun hb => ?_)
    · refine L_mono (hnl hb sf) ?_
      rintro e env H' sl cl ⟨rfl, rfl, rfl, rfl, v14, v69, rfl⟩
      have hend := (ends [(14, v14), (69, v69)]).1 hb
      exact And.intro (And.left hend) (And.right hend)
    · have hend := (ends [(65, .bool false)]).2 hb
      exact And.intro (And.left hend) (And.right hend)
  · refine And.intro rfl (Exists.intro _ (Exists.intro _ (Exists.intro _ (And.intro hE1 ?_))))
    refine And.intro rfl (Exists.intro _ (Exists.intro _ (Exists.intro _ (And.intro hE2 ?_))))
    refine And.intro rfl (Exists.intro _ (Exists.intro _ (Exists.intro _ (And.intro hE3 ?_))))
    refine And.intro (fun h => by cases h) (fun _ => ?_)
    refine And.intro (fun h => by cases h) (fun _ => ?_)
    refine And.intro (fun hb => ?_) (fun hb => ?_)
    · refine L_mono (hnl hb sf) ?_
      rintro e env H' sl cl ⟨rfl, rfl, rfl, rfl, v14, v69, rfl⟩
      have hend := (ends [(14, v14), (69, v69)]).1 hb
      exact And.intro (And.left hend) (And.right hend)
    · have hend := (ends [(65, .bool false)]).2 hb
      exact And.intro (And.left hend) (And.right hend)
  · refine And.intro rfl (Exists.intro _ (Exists.intro _ (Exists.intro _ (And.intro hE1 ?_))))
    refine And.intro rfl (Exists.intro _ (Exists.intro _ (Exists.intro _ (And.intro hE2 ?_))))
    refine And.intro rfl (Exists.intro _ (Exists.intro _ (Exists.intro _ (And.intro hE3 ?_))))
    refine And.intro (fun h => by cases h) (fun _ => ?_)
    refine And.intro (fun h => by cases h) (fun _ => ?_)
    refine And.intro (fun hb => ?_) (fun hb => ?_)
    · refine L_mono (hnl hb sf) ?_
      rintro e env H' sl cl ⟨rfl, rfl, rfl, rfl, v14, v69, rfl⟩
      have hend := (ends [(14, v14), (69, v69)]).1 hb
      exact And.intro (And.left hend) (And.right hend)
    · have hend := (ends [(65, .bool false)]).2 hb
      exact And.intro (And.left hend) (And.right hend)
  · refine And.intro rfl (Exists.intro _ (Exists.intro _ (Exists.intro _ (And.intro hE1 ?_))))
    refine And.intro rfl (Exists.intro _ (Exists.intro _ (Exists.intro _ (And.intro hE2 ?_))))
    refine And.intro rfl (Exists.intro _ (Exists.intro _ (Exists.intro _ (And.intro hE3 ?_))))
    refine And.intro (fun h => by cases h) (fun _ => ?_)
    refine And.intro (fun h => by cases h) (fun _ => ?_)
    refine And.intro (fun hb => ?_) (fun hb => ?_)
    · refine L_mono (hnl hb sf) ?_
      rintro e env H' sl cl ⟨rfl, rfl, rfl, rfl, v14, v69, rfl⟩
      have hend := (ends [(14, v14), (69, v69)]).1 hb
      exact And.intro (And.left hend) (And.right hend)
    · have hend := (ends [(65, .bool false)]).2 hb
      exact And.intro (And.left hend) (And.right hend)
  · refine And.intro rfl (Exists.intro _ (Exists.intro _ (Exists.intro _ (And.intro hE1 ?_))))
    refine And.intro rfl (Exists.intro _ (Exists.intro _ (Exists.intro _ (And.intro hE2 ?_))))
    refine And.intro rfl (Exists.intro _ (Exists.intro _ (Exists.intro _ (And.intro hE3 ?_))))
    refine And.intro (fun h => by cases h) (fun _ => ?_)
    refine And.intro (fun h => by cases h) (fun _ => ?_)
    refine And.intro (fun hb => ?_) (fun hb => ?_)
    · refine L_mono (hnl hb sf) ?_
      rintro e env H' sl cl ⟨rfl, rfl, rfl, rfl, v14, v69, rfl⟩
      have hend := (ends [(14, v14), (69, v69)]).1 hb
      exact And.intro (And.left hend) (And.right hend)
    · have hend := (ends [(65, .bool false)]).2 hb
      exact And.intro (And.left hend) (And.right hend)
  · refine And.intro rfl (Exists.intro _ (Exists.intro _ (Exists.intro _ (And.intro hE1 ?_))))
    refine And.intro rfl (Exists.intro _ (Exists.intro _ (Exists.intro _ (And.intro hE2 ?_))))
    refine And.intro rfl (Exists.intro _ (Exists.intro _ (Exists.intro _ (And.intro hE3 ?_))))
    refine And.intro (fun h => by cases h) (fun _ => ?_)
    refine And.intro (fun h => by cases h) (fun _ => ?_)
    refine And.intro (fun hb => ?_) (fun hb => ?_)
    · refine L_mono (hnl hb sf) ?_
      rintro e env H' sl cl ⟨rfl, rfl, rfl, rfl, v14, v69, rfl⟩
      have hend := (ends [(14, v14), (69, v69)]).1 hb
      exact And.intro (And.left hend) (And.right hend)
    · have hend := (ends [(65, .bool false)]).2 hb
      exact And.intro (And.left hend) (And.right hend)
  · refine And.intro rfl (Exists.intro _ (Exists.intro _ (Exists.intro _ (And.intro hE1 ?_))))
    refine And.intro rfl (Exists.intro _ (Exists.intro _ (Exists.intro _ (And.intro hE2 ?_))))
    refine And.intro rfl (Exists.intro _ (Exists.intro _ (Exists.intro _ (And.intro hE3 ?_))))
    refine And.intro (fun h => by cases h) (fun _ => ?_)
    refine And.intro (fun h => by cases h) (fun _ => ?_)
    refine And.intro (fun hb => ?_) (fun hb => ?_)
    · refine L_mono (hnl hb sf) ?_
      rintro e env H' sl cl ⟨rfl, rfl, rfl, rfl, v14, v69, rfl⟩
      have hend := (ends [(14, v14), (69, v69)]).1 hb
      exact And.intro (And.left hend) (And.right hend)
    · have hend := (ends [(65, .bool false)]).2 hb
      exact And.intro (And.left hend) (And.right hend)
end Go.Proofs.Ytnajopkaepjncaa
