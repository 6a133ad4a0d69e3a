/- ScriptForms: the closed facts of its row. -/
import Derived.Test.YtmaccpaiaidgpaaGreatDoorKit
namespace Go.Proofs.YtmaccpaiaidgpaaGreatDoor
open Go
set_option maxRecDepth 100000
theorem and_yesF {a b : Bool} (h : a = true) (k : b = true) : (a && b) = true := by rw [h, k]; rfl
theorem scriptFormsJ0 : (Rows.scriptFormsUptoRow.wf (OpenSpec.ofChange Rows.scriptFormsSpec) : Bool) = true := by kernel_rfl
theorem scriptFormsJ1 : (laidOutB Tryz.prog : Bool) = true := by kernel_rfl
theorem scriptFormsJ2 : (mapsRowed Tryz.prog : Bool) = true := by kernel_rfl
theorem scriptFormsJ3 : (Tryz.f5.params.all (Tryz.prog.readableRec ·) : Bool) = true := by kernel_rfl
theorem scriptFormsJ4 : (namedTie Tryz.prog Rows.scriptFormsUptoRow.named Rows.scriptFormsSpec.vars : Bool) = true := by kernel_rfl
theorem scriptFormsJ5 : ((Rows.scriptFormsUptoRow.stops == []) : Bool) = true := by kernel_rfl
theorem scriptFormsJ6 : ((Tryz.prog.stops == []) : Bool) = true := by kernel_rfl
theorem scriptFormsJ7 : ((Rows.scriptFormsUptoRow.knobs == []) : Bool) = true := by kernel_rfl
theorem scriptFormsJ8 : ((Tryz.prog.stopKnobs == []) : Bool) = true := by kernel_rfl
theorem scriptFormsJ9 : ((Rows.scriptFormsUptoRow.inPlace == Tryz.prog.inPlace 5) : Bool) = true := by kernel_rfl
theorem scriptFormsJ10 : ((Rows.scriptFormsUptoRow.unfollowed == Tryz.prog.unfollowed 5) : Bool) = true := by kernel_rfl
theorem scriptFormsJ11 : ((Rows.scriptFormsUptoRow.recurses == Tryz.prog.recurses 5) : Bool) = true := by kernel_rfl
theorem scriptFormsJ12 : ((Rows.scriptFormsUptoRow.named == Tryz.prog.varsNamed 5) : Bool) = true := by kernel_rfl
theorem scriptFormsJ13 : ((Rows.scriptFormsUptoRow.maps == (Tryz.f5.params.toList ++ Rows.scriptFormsSpec.plain.varTypes Tryz.prog).any (Tryz.prog.mapsRec ·)) : Bool) = true := by kernel_rfl
theorem scriptFormsJ14 : ((Rows.scriptFormsUptoRow.ifaces == (Tryz.f5.params.toList ++ Rows.scriptFormsSpec.plain.varTypes Tryz.prog).any (Tryz.prog.ifacesRec ·)) : Bool) = true := by kernel_rfl
theorem scriptFormsJ15 : ((Rows.scriptFormsUptoRow.mapsOut == Tryz.prog.mapsAmong Tryz.f5.resultTypes.toList) : Bool) = true := by kernel_rfl
theorem scriptFormsJ16 : ((Rows.scriptFormsUptoRow.loops == (Tryz.f5.params.toList ++ Rows.scriptFormsSpec.plain.varTypes Tryz.prog).any (Tryz.prog.loopsFrom ·)) : Bool) = true := by kernel_rfl
theorem scriptFormsJ17 : ((Rows.scriptFormsUptoRow.wideKeys == (Tryz.f5.params.toList ++ Rows.scriptFormsSpec.plain.varTypes Tryz.prog ++ Tryz.f5.resultTypes.toList).any (Tryz.prog.wideKeysFrom ·)) : Bool) = true := by kernel_rfl
theorem scriptFormsJ18 : (Rows.scriptFormsSpec.vars.all (Tryz.prog.varReadable ·) : Bool) = true := by kernel_rfl
theorem scriptFormsJ19 : (Tryz.f5.resultTypes.all (fun t => Tryz.prog.readableRec t && decide (t < Tryz.prog.types.size)) : Bool) = true := by kernel_rfl
theorem scriptFormsJ20 : ((Rows.scriptFormsUptoRow.ifacesOut == Tryz.f5.resultTypes.toList.any (Tryz.prog.ifacesRec ·)) : Bool) = true := by kernel_rfl
theorem scriptFormsJ21 : ((Rows.scriptFormsUptoRow.loopsOut == Tryz.f5.resultTypes.toList.any (Tryz.prog.loopsFrom ·)) : Bool) = true := by kernel_rfl
theorem scriptFormsJ22 : ((Rows.scriptFormsUptoRow.plainKeys == Tryz.prog.plainKeys) : Bool) = true := by kernel_rfl
theorem scriptFormsJ23 : (Rows.scriptFormsUptoRow.shortTexts.isNone : Bool) = true := by kernel_rfl
theorem scriptFormsJ24 : (Tryz.prog.stopsHeard : Bool) = true := by kernel_rfl
theorem scriptFormsJ25 : (Tryz.prog.mayEnter : Bool) = true := by kernel_rfl
theorem scriptFormsJ26 : ((Rows.scriptFormsUptoRow.lifted == Tryz.prog.liftsFinal) : Bool) = true := by kernel_rfl
theorem scriptFormsJ27 : ((Tryz.prog.make == some Rows.scriptFormsUptoRow.make) : Bool) = true := by kernel_rfl
theorem scriptFormsJ28 : ((Rows.scriptFormsUptoRow.kinds == (if Rows.scriptFormsUptoRow.domain.isEmpty then [] else Tryz.f5.params.toList.map fun t => match Tryz.prog.underlying t with | some (.int k) => some k | _ => none)) : Bool) = true := by kernel_rfl
theorem scriptFormsJ29 : ((Rows.scriptFormsUptoRow.pinned == Rows.scriptFormsUptoRow.pinnedBy) : Bool) = true := by kernel_rfl
theorem scriptFormsJ30 : ((Rows.scriptFormsUptoRow.veiled == (Tryz.f5.params.toList ++ Rows.scriptFormsSpec.plain.varTypes Tryz.prog ++ Tryz.f5.resultTypes.toList).any (Tryz.prog.veiledRec ·)) : Bool) = true := by kernel_rfl
theorem scriptFormsJ31 : (Rows.scriptFormsUptoRow.veiledFits Tryz.prog Tryz.f5.params.toList (Tryz.f5.params.toList ++ Rows.scriptFormsSpec.plain.varTypes Tryz.prog ++ Tryz.f5.resultTypes.toList) : Bool) = true := by kernel_rfl
theorem scriptFormsJoined : joinedFacts Tryz.pinned.checked.prog 5 Tryz.f5 Rows.scriptFormsSpec Rows.scriptFormsUptoRow = true := (and_yesF (and_yesF (and_yesF (and_yesF (and_yesF (and_yesF (and_yesF (and_yesF (and_yesF (and_yesF (and_yesF (and_yesF (and_yesF (and_yesF (and_yesF (and_yesF (and_yesF (and_yesF (and_yesF (and_yesF (and_yesF (and_yesF (and_yesF (and_yesF (and_yesF (and_yesF (and_yesF (and_yesF (and_yesF (and_yesF (and_yesF scriptFormsJ0 scriptFormsJ1) scriptFormsJ2) scriptFormsJ3) scriptFormsJ4) scriptFormsJ5) scriptFormsJ6) scriptFormsJ7) scriptFormsJ8) scriptFormsJ9) scriptFormsJ10) scriptFormsJ11) scriptFormsJ12) scriptFormsJ13) scriptFormsJ14) scriptFormsJ15) scriptFormsJ16) scriptFormsJ17) scriptFormsJ18) scriptFormsJ19) scriptFormsJ20) scriptFormsJ21) scriptFormsJ22) scriptFormsJ23) scriptFormsJ24) scriptFormsJ25) scriptFormsJ26) scriptFormsJ27) scriptFormsJ28) scriptFormsJ29) scriptFormsJ30) scriptFormsJ31)
end Go.Proofs.YtmaccpaiaidgpaaGreatDoor

