/- ScriptReads, the card: for all bytes the call returns true, and the bytes read behind the call as before; the tables that the row lists hold what the program lays. -/
import Derived.Test.YtmaccpaiaidgpaaGreatDoorReadsJ
import Derived.Test.YtmaccpaiaidgpaaGreatDoorReadsA
namespace Go.Proofs.YtmaccpaiaidgpaaGreatDoor
open Go Go.Mir Go.ChangeShapes Go.WideShapes Go.ChangeAt Go.RowKit
set_option maxRecDepth 100000
theorem named4 : Tryz.pinned.checked.prog.funcNamed Rows.scriptReadsRow.func = some 4 := by kernel_rfl
theorem instB4 : decide (Tryz.f4.isInstance Tryz.pinned.checked.prog Rows.scriptReadsRow.origin Rows.scriptReadsRow.targs) = true := by kernel_rfl
theorem wrapB4 : decide (Tryz.f4.isWrapper Tryz.pinned.checked.prog Rows.scriptReadsRow.wrapper Rows.scriptReadsRow.mainSum) = true := by kernel_rfl
theorem scriptReads_holds : Rows.ScriptReadsSaid :=
  OpenClaim.holds_of_wide 4 Tryz.f4 rfl rfl rfl rfl rfl rfl rfl ⟨rfl, rfl, rfl, rfl, rfl⟩ rfl rfl rfl rfl rfl named4 Tryz.func4 scriptReadsJoined
    (of_decide_eq_true instB4) (of_decide_eq_true wrapB4)
    (fun os started H enc _ => scriptReads_lifted os started H enc)

theorem goesFrom_of {P : Program} (h : ∀ f, P.goes f = false) (n : String) : P.goesFrom n = false := by
  unfold Program.goesFrom
  cases P.funcNamed n with
  | none => rfl
  | some f => exact h f
theorem goesBy_of {P : Program} (h : ∀ f, P.goes f = false) (c : OpenClaim) (hs : c.start = .entering) : false = c.goesBy P := by
  unfold OpenClaim.goesBy Program.goesAt
  rw [goesFrom_of h, hs]; rfl
theorem goesBy_none (c : OpenClaim) (hs : c.start = .entering) : false = c.goesBy Tryz.pinned.checked.prog := goesBy_of (P := Tryz.prog) goes_none c hs

theorem mainIs : Tryz.pinned.checked.prog.mainIs = some (true, "91b21478f0b490c0eafb810997e2bf7f43483ca59572ca079d9420b3ee0b7e95".toList) := by kernel_rfl
theorem wfT4 : Rows.scriptReadsRow.wfByText (OpenSpec.ofChange Rows.scriptReadsSpec) = true := by kernel_rfl
theorem looksNone : false = Tryz.pinned.checked.prog.looks [] := by kernel_rfl
theorem want23 : Tryz.pinned.checked.prog.wantsStandIn 23 = false := by kernel_rfl

/-- The card. -/
theorem scriptReads_card : Rows.ScriptReadsCardSaid :=
  Claim7.holds_tied_plain_at .later [] [.data, .data, .pinned] true (true, "91b21478f0b490c0eafb810997e2bf7f43483ca59572ca079d9420b3ee0b7e95") false scriptReads_holds (fun _ h => by cases h) wfT4 (fun _ h => by cases h) scriptReads_row_tie rfl ⟨rfl, rfl⟩ mainIs rfl
    (fun f fn hf hfn => by
      obtain rfl : f = 4 := Option.some.inj (named4.symm.trans hf) |>.symm
      obtain rfl : fn = Tryz.f4 := (Option.some.inj (Tryz.func4.symm.trans hfn)).symm
      exact ⟨looksNone, fun j t ht => by
        rw [Tryz.params4] at ht
        have hm : t = 23 := by simpa using Array.mem_of_getElem? ht
        subst hm
        exact want23⟩)
    (goesBy_none _ rfl)
#print axioms scriptReads_card
end Go.Proofs.YtmaccpaiaidgpaaGreatDoor

