/- The known case of layer 29 gives true. -/
import Derived.Test.YtmaccpaiaidgpaaGreatDoorKnownA
import Derived.Test.YtmaccpaiaidgpaaGreatDoorTabsO
namespace Go.Proofs.YtmaccpaiaidgpaaGreatDoor
open Go Go.Mir
theorem known29Yes : yes ((evF cx 1000000).call 22 [] (H.set ⟨4, .nil⟩ 0 (.rom fieldsRom))) = true := by kernel_rfl
theorem gives22 : Gives Tryz.prog 22 (.bool true) fieldsRom := by
  have h := known29Yes
  rw [evF_eq] at h
  obtain ⟨h', e⟩ := yes_of h
  obtain ⟨c, hc⟩ : ∃ c, Tryz.f22.body = some c := ⟨_, rfl⟩
  exact gives_zero cxOk (fn := Tryz.f22) (by rfl) hc e rfl (by decide) (by decide)
end Go.Proofs.YtmaccpaiaidgpaaGreatDoor

