/- ScriptReads: the closed facts of its row. -/
import Derived.Test.YtmaccpaiaidgpaaGreatDoorKit
namespace Go.Proofs.YtmaccpaiaidgpaaGreatDoor
open Go
set_option maxRecDepth 100000
theorem and_yes {a b : Bool} (h : a = true) (k : b = true) : (a && b) = true := by rw [h, k]; rfl
theorem scriptReadsJ0 : (Rows.scriptReadsRow.wf (OpenSpec.ofChange Rows.scriptReadsSpec) : Bool) = true := by kernel_rfl
theorem scriptReadsJ1 : (laidOutB Tryz.prog : Bool) = true := by kernel_rfl
theorem scriptReadsJ2 : (mapsRowed Tryz.prog : Bool) = true := by kernel_rfl
theorem scriptReadsJ3 : (Tryz.f4.params.all (Tryz.prog.readableRec ·) : Bool) = true := by kernel_rfl
theorem scriptReadsJ4 : (namedTie Tryz.prog Rows.scriptReadsRow.named Rows.scriptReadsSpec.vars : Bool) = true := by kernel_rfl
theorem scriptReadsJ5 : ((Rows.scriptReadsRow.stops == []) : Bool) = true := by kernel_rfl
theorem scriptReadsJ6 : ((Tryz.prog.stops == []) : Bool) = true := by kernel_rfl
theorem scriptReadsJ7 : ((Rows.scriptReadsRow.knobs == []) : Bool) = true := by kernel_rfl
theorem scriptReadsJ8 : ((Tryz.prog.stopKnobs == []) : Bool) = true := by kernel_rfl
theorem scriptReadsJ9 : ((Rows.scriptReadsRow.inPlace == Tryz.prog.inPlace 4) : Bool) = true := by kernel_rfl
theorem scriptReadsJ10 : ((Rows.scriptReadsRow.unfollowed == Tryz.prog.unfollowed 4) : Bool) = true := by kernel_rfl
theorem scriptReadsJ11 : ((Rows.scriptReadsRow.recurses == Tryz.prog.recurses 4) : Bool) = true := by kernel_rfl
theorem scriptReadsJ12 : ((Rows.scriptReadsRow.named == Tryz.prog.varsNamed 4) : Bool) = true := by kernel_rfl
theorem scriptReadsJ13 : ((Rows.scriptReadsRow.maps == (Tryz.f4.params.toList ++ Rows.scriptReadsSpec.plain.varTypes Tryz.prog).any (Tryz.prog.mapsRec ·)) : Bool) = true := by kernel_rfl
theorem scriptReadsJ14 : ((Rows.scriptReadsRow.ifaces == (Tryz.f4.params.toList ++ Rows.scriptReadsSpec.plain.varTypes Tryz.prog).any (Tryz.prog.ifacesRec ·)) : Bool) = true := by kernel_rfl
theorem scriptReadsJ15 : ((Rows.scriptReadsRow.mapsOut == Tryz.prog.mapsAmong Tryz.f4.resultTypes.toList) : Bool) = true := by kernel_rfl
theorem scriptReadsJ16 : ((Rows.scriptReadsRow.loops == (Tryz.f4.params.toList ++ Rows.scriptReadsSpec.plain.varTypes Tryz.prog).any (Tryz.prog.loopsFrom ·)) : Bool) = true := by kernel_rfl
theorem scriptReadsJ17 : ((Rows.scriptReadsRow.wideKeys == (Tryz.f4.params.toList ++ Rows.scriptReadsSpec.plain.varTypes Tryz.prog ++ Tryz.f4.resultTypes.toList).any (Tryz.prog.wideKeysFrom ·)) : Bool) = true := by kernel_rfl
theorem scriptReadsJ18 : (Rows.scriptReadsSpec.vars.all (Tryz.prog.varReadable ·) : Bool) = true := by kernel_rfl
theorem scriptReadsJ19 : (Tryz.f4.resultTypes.all (fun t => Tryz.prog.readableRec t && decide (t < Tryz.prog.types.size)) : Bool) = true := by kernel_rfl
theorem scriptReadsJ20 : ((Rows.scriptReadsRow.ifacesOut == Tryz.f4.resultTypes.toList.any (Tryz.prog.ifacesRec ·)) : Bool) = true := by kernel_rfl
theorem scriptReadsJ21 : ((Rows.scriptReadsRow.loopsOut == Tryz.f4.resultTypes.toList.any (Tryz.prog.loopsFrom ·)) : Bool) = true := by kernel_rfl
theorem scriptReadsJ22 : ((Rows.scriptReadsRow.plainKeys == Tryz.prog.plainKeys) : Bool) = true := by kernel_rfl
theorem scriptReadsJ23 : (Rows.scriptReadsRow.shortTexts.isNone : Bool) = true := by kernel_rfl
theorem scriptReadsJ24 : (Tryz.prog.stopsHeard : Bool) = true := by kernel_rfl
theorem scriptReadsJ25 : (Tryz.prog.mayEnter : Bool) = true := by kernel_rfl
theorem scriptReadsJ26 : ((Rows.scriptReadsRow.lifted == Tryz.prog.liftsFinal) : Bool) = true := by kernel_rfl
theorem scriptReadsJ27 : ((Tryz.prog.make == some Rows.scriptReadsRow.make) : Bool) = true := by kernel_rfl
theorem scriptReadsJ28 : ((Rows.scriptReadsRow.kinds == (if Rows.scriptReadsRow.domain.isEmpty then [] else Tryz.f4.params.toList.map fun t => match Tryz.prog.underlying t with | some (.int k) => some k | _ => none)) : Bool) = true := by kernel_rfl
theorem scriptReadsJ29 : ((Rows.scriptReadsRow.pinned == Rows.scriptReadsRow.pinnedBy) : Bool) = true := by kernel_rfl
theorem scriptReadsJ30 : ((Rows.scriptReadsRow.veiled == (Tryz.f4.params.toList ++ Rows.scriptReadsSpec.plain.varTypes Tryz.prog ++ Tryz.f4.resultTypes.toList).any (Tryz.prog.veiledRec ·)) : Bool) = true := by kernel_rfl
theorem scriptReadsJ31 : (Rows.scriptReadsRow.veiledFits Tryz.prog Tryz.f4.params.toList (Tryz.f4.params.toList ++ Rows.scriptReadsSpec.plain.varTypes Tryz.prog ++ Tryz.f4.resultTypes.toList) : Bool) = true := by kernel_rfl
theorem scriptReadsJoined : joinedFacts Tryz.pinned.checked.prog 4 Tryz.f4 Rows.scriptReadsSpec Rows.scriptReadsRow = true := (and_yes (and_yes (and_yes (and_yes (and_yes (and_yes (and_yes (and_yes (and_yes (and_yes (and_yes (and_yes (and_yes (and_yes (and_yes (and_yes (and_yes (and_yes (and_yes (and_yes (and_yes (and_yes (and_yes (and_yes (and_yes (and_yes (and_yes (and_yes (and_yes (and_yes (and_yes scriptReadsJ0 scriptReadsJ1) scriptReadsJ2) scriptReadsJ3) scriptReadsJ4) scriptReadsJ5) scriptReadsJ6) scriptReadsJ7) scriptReadsJ8) scriptReadsJ9) scriptReadsJ10) scriptReadsJ11) scriptReadsJ12) scriptReadsJ13) scriptReadsJ14) scriptReadsJ15) scriptReadsJ16) scriptReadsJ17) scriptReadsJ18) scriptReadsJ19) scriptReadsJ20) scriptReadsJ21) scriptReadsJ22) scriptReadsJ23) scriptReadsJ24) scriptReadsJ25) scriptReadsJ26) scriptReadsJ27) scriptReadsJ28) scriptReadsJ29) scriptReadsJ30) scriptReadsJ31)
end Go.Proofs.YtmaccpaiaidgpaaGreatDoor

