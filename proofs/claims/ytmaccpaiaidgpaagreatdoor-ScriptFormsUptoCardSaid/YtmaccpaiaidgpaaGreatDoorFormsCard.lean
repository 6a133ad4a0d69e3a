/- ScriptForms, the card, where what is read is of bulk at most 1048576: for all two scripts the call returns true, and the scripts read behind the call as before; the tables that the row lists hold what the program lays. -/
import Derived.Test.YtmaccpaiaidgpaaGreatDoorFormsJ
import Derived.Test.YtmaccpaiaidgpaaGreatDoorFormsB
import Derived.Test.YtmaccpaiaidgpaaGreatDoorCardZ
namespace Go.Proofs.YtmaccpaiaidgpaaGreatDoor
open Go Go.Mir Go.ChangeShapes Go.WideShapes Go.ChangeAt Go.RowKit
set_option maxRecDepth 100000
theorem named5 : Tryz.pinned.checked.prog.funcNamed Rows.scriptFormsUptoRow.func = some 5 := by kernel_rfl
theorem instB5 : decide (Tryz.f5.isInstance Tryz.pinned.checked.prog Rows.scriptFormsUptoRow.origin Rows.scriptFormsUptoRow.targs) = true := by kernel_rfl
theorem wrapB5 : decide (Tryz.f5.isWrapper Tryz.pinned.checked.prog Rows.scriptFormsUptoRow.wrapper Rows.scriptFormsUptoRow.mainSum) = true := by kernel_rfl
theorem scriptForms_holds : Rows.ScriptFormsUptoSaid :=
  OpenClaim.holds_of_cond 5 Tryz.f5 rfl rfl rfl rfl rfl rfl rfl ⟨rfl, rfl, rfl, rfl, rfl⟩ rfl rfl rfl rfl rfl named5 Tryz.func5 scriptFormsJoined
    (of_decide_eq_true instB5) (of_decide_eq_true wrapB5)
    (fun os started H enc _ F => by rw [OpenClaim.pre_eq_preRow]; exact forms_lifted os started H enc F)
theorem wfT5 : Rows.scriptFormsUptoRow.wfByText (Rows.OpenSpec.upto Rows.scriptFormsSpec) = true := by kernel_rfl

/-- The card. -/
theorem scriptForms_card : Rows.ScriptFormsUptoCardSaid :=
  Claim7.holds_tied_plain_at .later [] [.data, .data, .pinned] true (true, "91b21478f0b490c0eafb810997e2bf7f43483ca59572ca079d9420b3ee0b7e95") false scriptForms_holds (fun _ h => by cases h) wfT5 (fun _ h => by cases h) scriptFormsUpto_row_tie rfl ⟨rfl, rfl⟩ mainIs rfl
    (fun f fn hf hfn => by
      obtain rfl : f = 5 := Option.some.inj (named5.symm.trans hf) |>.symm
      obtain rfl : fn = Tryz.f5 := (Option.some.inj (Tryz.func5.symm.trans hfn)).symm
      exact ⟨looksNone, fun j t ht => by
        rw [Tryz.params5] at ht
        have hm : t = 54 := by simpa using Array.mem_of_getElem? ht
        subst hm
        · exact want54⟩)
    (goesBy_none _ rfl)
#print axioms scriptForms_card
end Go.Proofs.YtmaccpaiaidgpaaGreatDoor

