/- ScriptPrefix, the card, where what is read is of bulk at most 1048576: for every script and every number the call returns true, and the script reads behind the call as before; the tables that the row lists hold what the program lays. -/
import Derived.Test.YtmaccpaiaidgpaaGreatDoorPrefixJ
import Derived.Test.YtmaccpaiaidgpaaGreatDoorPrefixA
import Derived.Test.YtmaccpaiaidgpaaGreatDoorCardZ
namespace Go.Proofs.YtmaccpaiaidgpaaGreatDoor
open Go Go.Mir Go.ChangeShapes Go.WideShapes Go.ChangeAt Go.RowKit
set_option maxRecDepth 100000
theorem named7 : Tryz.pinned.checked.prog.funcNamed Rows.scriptPrefixUptoRow.func = some 7 := by kernel_rfl
theorem instB7 : decide (Tryz.f7.isInstance Tryz.pinned.checked.prog Rows.scriptPrefixUptoRow.origin Rows.scriptPrefixUptoRow.targs) = true := by kernel_rfl
theorem wrapB7 : decide (Tryz.f7.isWrapper Tryz.pinned.checked.prog Rows.scriptPrefixUptoRow.wrapper Rows.scriptPrefixUptoRow.mainSum) = true := by kernel_rfl
theorem scriptPrefix_holds : Rows.ScriptPrefixUptoSaid :=
  OpenClaim.holds_of_cond 7 Tryz.f7 rfl rfl rfl rfl rfl rfl rfl ⟨rfl, rfl, rfl, rfl, rfl⟩ rfl rfl rfl rfl rfl named7 Tryz.func7 scriptPrefixJoined
    (of_decide_eq_true instB7) (of_decide_eq_true wrapB7)
    (fun os started H enc _ F => by rw [OpenClaim.pre_eq_preRow]; exact prefix_lifted os started H enc F)
theorem wfT7 : Rows.scriptPrefixUptoRow.wfByText (Rows.OpenSpec.upto Rows.scriptPrefixSpec) = true := by kernel_rfl

/-- The card. -/
theorem scriptPrefix_card : Rows.ScriptPrefixUptoCardSaid :=
  Claim7.holds_tied_plain_at .later [] [.data, .data, .pinned] true (true, "91b21478f0b490c0eafb810997e2bf7f43483ca59572ca079d9420b3ee0b7e95") false scriptPrefix_holds (fun _ h => by cases h) wfT7 (fun _ h => by cases h) scriptPrefixUpto_row_tie rfl ⟨rfl, rfl⟩ mainIs rfl
    (fun f fn hf hfn => by
      obtain rfl : f = 7 := Option.some.inj (named7.symm.trans hf) |>.symm
      obtain rfl : fn = Tryz.f7 := (Option.some.inj (Tryz.func7.symm.trans hfn)).symm
      exact ⟨looksNone, fun j t ht => by
        rw [Tryz.params7] at ht
        have hm : t = 54 ∨ t = 3 := by simpa using Array.mem_of_getElem? ht
        rcases hm with rfl | rfl
        · exact want54
        · exact want3⟩)
    (goesBy_none _ rfl)
#print axioms scriptPrefix_card
end Go.Proofs.YtmaccpaiaidgpaaGreatDoor

