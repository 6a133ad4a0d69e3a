/- EngineNone, the card: for every command that reads as data the call returns true, and the command reads behind the call as before; the two tables of unicode/utf8 that the row lists hold what the program lays. -/
import Derived.Test.YtmaccpaiaidgpaaGreatDoorNoneJ
import Derived.Test.YtmaccpaiaidgpaaGreatDoorNoneC
namespace Go.Proofs.YtmaccpaiaidgpaaGreatDoor
open Go Go.Mir Go.ChangeShapes Go.WideShapes Go.ChangeAt Go.RowKit
set_option maxRecDepth 100000
theorem named3 : Tryz.pinned.checked.prog.funcNamed Rows.engineNoneRow.func = some 3 := by kernel_rfl
theorem instB3 : decide (Tryz.f3.isInstance Tryz.pinned.checked.prog Rows.engineNoneRow.origin Rows.engineNoneRow.targs) = true := by kernel_rfl
theorem wrapB3 : decide (Tryz.f3.isWrapper Tryz.pinned.checked.prog Rows.engineNoneRow.wrapper Rows.engineNoneRow.mainSum) = true := by kernel_rfl
theorem engineNone_holds : Rows.EngineNoneSaid :=
  OpenClaim.holds_of_wide 3 Tryz.f3 rfl rfl rfl rfl rfl rfl rfl ⟨rfl, rfl, rfl, rfl, rfl⟩ rfl rfl rfl rfl rfl named3 Tryz.func3 engineNoneJoined
    (of_decide_eq_true instB3) (of_decide_eq_true wrapB3)
    (fun os started H enc _ => engineNone_lifted os started H enc)

theorem goesFrom_of {P : Program} (h : ∀ f, P.goes f = false) (n : String) : P.goesFrom n = false := by
  unfold Program.goesFrom
  cases P.funcNamed n with
  | none => rfl
  | some f => exact h f
theorem goesBy_of {P : Program} (h : ∀ f, P.goes f = false) (c : OpenClaim) (hs : c.start = .entering) : false = c.goesBy P := by
  unfold OpenClaim.goesBy Program.goesAt
  rw [goesFrom_of h, hs]; rfl
theorem goesBy_none (c : OpenClaim) (hs : c.start = .entering) : false = c.goesBy Tryz.pinned.checked.prog := goesBy_of (P := Tryz.prog) goes_none c hs

theorem mainIs : Tryz.pinned.checked.prog.mainIs = some (true, "91b21478f0b490c0eafb810997e2bf7f43483ca59572ca079d9420b3ee0b7e95".toList) := by kernel_rfl
theorem wfT3 : Rows.engineNoneRow.wfByText (OpenSpec.ofChange Rows.engineNoneSpec) = true := by kernel_rfl
theorem looksNone : false = Tryz.pinned.checked.prog.looks [] := by kernel_rfl
theorem want26 : Tryz.pinned.checked.prog.wantsStandIn 26 = false := by kernel_rfl

/-- The card. -/
theorem engineNone_card : Rows.EngineNoneCardSaid :=
  Claim7.holds_tied_plain_at .later [] [.data, .pinned] true (true, "91b21478f0b490c0eafb810997e2bf7f43483ca59572ca079d9420b3ee0b7e95") false engineNone_holds (fun _ h => by cases h) wfT3 (fun _ h => by cases h) engineNone_row_tie rfl ⟨rfl, rfl⟩ mainIs rfl
    (fun f fn hf hfn => by
      obtain rfl : f = 3 := Option.some.inj (named3.symm.trans hf) |>.symm
      obtain rfl : fn = Tryz.f3 := (Option.some.inj (Tryz.func3.symm.trans hfn)).symm
      exact ⟨looksNone, fun j t ht => by
        rw [Tryz.params3] at ht
        have hm : t = 26 := by simpa using Array.mem_of_getElem? ht
        subst hm
        exact want26⟩)
    (goesBy_none _ rfl)
#print axioms engineNone_card
end Go.Proofs.YtmaccpaiaidgpaaGreatDoor

