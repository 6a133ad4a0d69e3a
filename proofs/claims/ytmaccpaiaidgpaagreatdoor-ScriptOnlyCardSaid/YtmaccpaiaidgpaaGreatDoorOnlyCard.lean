/- ScriptOnly, the card: for all bytes the call returns true, and the bytes read behind the call as before; the tables that the row lists hold what the program lays. -/
import Derived.Test.YtmaccpaiaidgpaaGreatDoorOnlyJ
import Derived.Test.YtmaccpaiaidgpaaGreatDoorOnlyA
namespace Go.Proofs.YtmaccpaiaidgpaaGreatDoor
open Go Go.Mir Go.ChangeShapes Go.WideShapes Go.ChangeAt Go.RowKit
set_option maxRecDepth 100000
theorem named6 : Tryz.pinned.checked.prog.funcNamed Rows.scriptOnlyRow.func = some 6 := by kernel_rfl
theorem instB6 : decide (Tryz.f6.isInstance Tryz.pinned.checked.prog Rows.scriptOnlyRow.origin Rows.scriptOnlyRow.targs) = true := by kernel_rfl
theorem wrapB6 : decide (Tryz.f6.isWrapper Tryz.pinned.checked.prog Rows.scriptOnlyRow.wrapper Rows.scriptOnlyRow.mainSum) = true := by kernel_rfl
theorem scriptOnly_holds : Rows.ScriptOnlySaid :=
  OpenClaim.holds_of_wide 6 Tryz.f6 rfl rfl rfl rfl rfl rfl rfl ⟨rfl, rfl, rfl, rfl, rfl⟩ rfl rfl rfl rfl rfl named6 Tryz.func6 scriptOnlyJoined
    (of_decide_eq_true instB6) (of_decide_eq_true wrapB6)
    (fun os started H enc _ => scriptOnly_lifted os started H enc)

theorem goesFrom_of {P : Program} (h : ∀ f, P.goes f = false) (n : String) : P.goesFrom n = false := by
  unfold Program.goesFrom
  cases P.funcNamed n with
  | none => rfl
  | some f => exact h f
theorem goesBy_of {P : Program} (h : ∀ f, P.goes f = false) (c : OpenClaim) (hs : c.start = .entering) : false = c.goesBy P := by
  unfold OpenClaim.goesBy Program.goesAt
  rw [goesFrom_of h, hs]; rfl
theorem goesBy_none (c : OpenClaim) (hs : c.start = .entering) : false = c.goesBy Tryz.pinned.checked.prog := goesBy_of (P := Tryz.prog) goes_none c hs

theorem mainIs : Tryz.pinned.checked.prog.mainIs = some (true, "91b21478f0b490c0eafb810997e2bf7f43483ca59572ca079d9420b3ee0b7e95".toList) := by kernel_rfl
theorem wfT6 : Rows.scriptOnlyRow.wfByText (OpenSpec.ofChange Rows.scriptOnlySpec) = true := by kernel_rfl
theorem looksNone : false = Tryz.pinned.checked.prog.looks [] := by kernel_rfl
theorem want23 : Tryz.pinned.checked.prog.wantsStandIn 23 = false := by kernel_rfl

/-- The card. -/
theorem scriptOnly_card : Rows.ScriptOnlyCardSaid :=
  Claim7.holds_tied_plain_at .later [] [.data, .data, .pinned] true (true, "91b21478f0b490c0eafb810997e2bf7f43483ca59572ca079d9420b3ee0b7e95") false scriptOnly_holds (fun _ h => by cases h) wfT6 (fun _ h => by cases h) scriptOnly_row_tie rfl ⟨rfl, rfl⟩ mainIs rfl
    (fun f fn hf hfn => by
      obtain rfl : f = 6 := Option.some.inj (named6.symm.trans hf) |>.symm
      obtain rfl : fn = Tryz.f6 := (Option.some.inj (Tryz.func6.symm.trans hfn)).symm
      exact ⟨looksNone, fun j t ht => by
        rw [Tryz.params6] at ht
        have hm : t = 23 := by simpa using Array.mem_of_getElem? ht
        subst hm
        exact want23⟩)
    (goesBy_none _ rfl)
#print axioms scriptOnly_card
end Go.Proofs.YtmaccpaiaidgpaaGreatDoor

