/- The known case of layer 28 gives true. -/
import Derived.Test.YtmaccpaiaidgpaaGreatDoorTabsB
import Derived.Test.YtmaccpaiaidgpaaGreatDoorMirD
namespace Go.Proofs.YtmaccpaiaidgpaaGreatDoor
open Go Go.Mir
noncomputable def yes : Option (Value × H) → Bool
  | some (.bool b, _) => b
  | _ => false
theorem yes_of {x : Option (Value × H)} (h : yes x = true) : ∃ h', x = some (.bool true, h') := by
  cases x with
  | none => simp [yes] at h
  | some p =>
    obtain ⟨v, h'⟩ := p
    cases v <;> simp [yes] at h
    subst h; exact ⟨h', rfl⟩
theorem known28Yes : yes ((evF cx 1000000).call 9 [] ⟨4, .nil⟩) = true := by kernel_rfl
theorem gives9 : Gives Tryz.prog 9 (.bool true) [] := by
  have h := known28Yes
  rw [evF_eq] at h
  obtain ⟨h', e⟩ := yes_of h
  obtain ⟨c, hc⟩ : ∃ c, Tryz.f9.body = some c := ⟨_, rfl⟩
  exact gives_alone cxOk (fn := Tryz.f9) (by rfl) hc e rfl
end Go.Proofs.YtmaccpaiaidgpaaGreatDoor

