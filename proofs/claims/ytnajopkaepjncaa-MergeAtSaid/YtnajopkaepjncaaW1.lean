/- Some answers that the document fixes: 'awake' says yes, whatever memory there is. -/
import Derived.Test.YtnajopkaepjncaaAmP
import Derived.Test.YtnajopkaepjncaaVars
namespace Go.Proofs.Ytnajopkaepjncaa
open Am
noncomputable def awakeRun : Bool := match callN Try.prog Kn 400 11 [] [] [] with
  | some (.bool true, _, _) => true
  | _ => false
theorem awake_run : awakeRun = true := by kernel_rfl
theorem awake_is : ∃ H' own', callN Try.prog Kn 400 11 [] [] [] = some (.bool true, H', own') := by
  have h := awake_run
  unfold awakeRun at h
  split at h
  · rename_i H' own' e; exact ⟨H', own', e⟩
  · cases h
theorem K0_sound : ShortSound Try.prog K0 := by
  obtain ⟨H', own', h⟩ := awake_is
  exact idle_sound pok (none_sound rfl) h rfl
theorem awake_spec (H : Hp) (cells : Cl) : CallsA Try.prog K0 11 [] H cells (.bool true) H cells := by
  intro own hown
  exact ⟨own, hown, 1, fun m hm => by
    obtain ⟨k, rfl⟩ : ∃ k, m = k + 1 := ⟨m - 1, by omega⟩
    rfl⟩
end Go.Proofs.Ytnajopkaepjncaa
