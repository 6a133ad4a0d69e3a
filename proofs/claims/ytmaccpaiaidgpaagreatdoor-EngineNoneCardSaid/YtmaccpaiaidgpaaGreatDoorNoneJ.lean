/- EngineNone: the closed facts of its row. -/
import Derived.Test.YtmaccpaiaidgpaaGreatDoorNoneC
namespace Go.Proofs.YtmaccpaiaidgpaaGreatDoor
open Go
set_option maxRecDepth 100000
theorem and_yes {a b : Bool} (h : a = true) (k : b = true) : (a && b) = true := by rw [h, k]; rfl
theorem engineNoneJ0 : (Rows.engineNoneRow.wf (OpenSpec.ofChange Rows.engineNoneSpec) : Bool) = true := by kernel_rfl
theorem engineNoneJ1 : (laidOutB Tryz.prog : Bool) = true := by kernel_rfl
theorem engineNoneJ2 : (mapsRowed Tryz.prog : Bool) = true := by kernel_rfl
theorem engineNoneJ3 : (Tryz.f3.params.all (Tryz.prog.readableRec ·) : Bool) = true := by kernel_rfl
theorem engineNoneJ4 : (namedTie Tryz.prog Rows.engineNoneRow.named Rows.engineNoneSpec.vars : Bool) = true := by kernel_rfl
theorem engineNoneJ5 : ((Rows.engineNoneRow.stops == []) : Bool) = true := by kernel_rfl
theorem engineNoneJ6 : ((Tryz.prog.stops == []) : Bool) = true := by kernel_rfl
theorem engineNoneJ7 : ((Rows.engineNoneRow.knobs == []) : Bool) = true := by kernel_rfl
theorem engineNoneJ8 : ((Tryz.prog.stopKnobs == []) : Bool) = true := by kernel_rfl
theorem engineNoneJ9 : ((Rows.engineNoneRow.inPlace == Tryz.prog.inPlace 3) : Bool) = true := by kernel_rfl
theorem engineNoneJ10 : ((Rows.engineNoneRow.unfollowed == Tryz.prog.unfollowed 3) : Bool) = true := by kernel_rfl
theorem engineNoneJ11 : ((Rows.engineNoneRow.recurses == Tryz.prog.recurses 3) : Bool) = true := by kernel_rfl
theorem engineNoneJ12 : ((Rows.engineNoneRow.named == Tryz.prog.varsNamed 3) : Bool) = true := by kernel_rfl
theorem engineNoneJ13 : ((Rows.engineNoneRow.maps == (Tryz.f3.params.toList ++ Rows.engineNoneSpec.plain.varTypes Tryz.prog).any (Tryz.prog.mapsRec ·)) : Bool) = true := by kernel_rfl
theorem engineNoneJ14 : ((Rows.engineNoneRow.ifaces == (Tryz.f3.params.toList ++ Rows.engineNoneSpec.plain.varTypes Tryz.prog).any (Tryz.prog.ifacesRec ·)) : Bool) = true := by kernel_rfl
theorem engineNoneJ15 : ((Rows.engineNoneRow.mapsOut == Tryz.prog.mapsAmong Tryz.f3.resultTypes.toList) : Bool) = true := by kernel_rfl
theorem engineNoneJ16 : ((Rows.engineNoneRow.loops == (Tryz.f3.params.toList ++ Rows.engineNoneSpec.plain.varTypes Tryz.prog).any (Tryz.prog.loopsFrom ·)) : Bool) = true := by kernel_rfl
theorem engineNoneJ17 : ((Rows.engineNoneRow.wideKeys == (Tryz.f3.params.toList ++ Rows.engineNoneSpec.plain.varTypes Tryz.prog ++ Tryz.f3.resultTypes.toList).any (Tryz.prog.wideKeysFrom ·)) : Bool) = true := by kernel_rfl
theorem engineNoneJ18 : (Rows.engineNoneSpec.vars.all (Tryz.prog.varReadable ·) : Bool) = true := by kernel_rfl
theorem engineNoneJ19 : (Tryz.f3.resultTypes.all (fun t => Tryz.prog.readableRec t && decide (t < Tryz.prog.types.size)) : Bool) = true := by kernel_rfl
theorem engineNoneJ20 : ((Rows.engineNoneRow.ifacesOut == Tryz.f3.resultTypes.toList.any (Tryz.prog.ifacesRec ·)) : Bool) = true := by kernel_rfl
theorem engineNoneJ21 : ((Rows.engineNoneRow.loopsOut == Tryz.f3.resultTypes.toList.any (Tryz.prog.loopsFrom ·)) : Bool) = true := by kernel_rfl
theorem engineNoneJ22 : ((Rows.engineNoneRow.plainKeys == Tryz.prog.plainKeys) : Bool) = true := by kernel_rfl
theorem engineNoneJ23 : (Rows.engineNoneRow.shortTexts.isNone : Bool) = true := by kernel_rfl
theorem engineNoneJ24 : (Tryz.prog.stopsHeard : Bool) = true := by kernel_rfl
theorem engineNoneJ25 : (Tryz.prog.mayEnter : Bool) = true := by kernel_rfl
theorem engineNoneJ26 : ((Rows.engineNoneRow.lifted == Tryz.prog.liftsFinal) : Bool) = true := by kernel_rfl
theorem engineNoneJ27 : ((Tryz.prog.make == some Rows.engineNoneRow.make) : Bool) = true := by kernel_rfl
theorem engineNoneJ28 : ((Rows.engineNoneRow.kinds == (if Rows.engineNoneRow.domain.isEmpty then [] else Tryz.f3.params.toList.map fun t => match Tryz.prog.underlying t with | some (.int k) => some k | _ => none)) : Bool) = true := by kernel_rfl
theorem engineNoneJ29 : ((Rows.engineNoneRow.pinned == Rows.engineNoneRow.pinnedBy) : Bool) = true := by kernel_rfl
theorem engineNoneJ30 : ((Rows.engineNoneRow.veiled == (Tryz.f3.params.toList ++ Rows.engineNoneSpec.plain.varTypes Tryz.prog ++ Tryz.f3.resultTypes.toList).any (Tryz.prog.veiledRec ·)) : Bool) = true := by kernel_rfl
theorem engineNoneJ31 : (Rows.engineNoneRow.veiledFits Tryz.prog Tryz.f3.params.toList (Tryz.f3.params.toList ++ Rows.engineNoneSpec.plain.varTypes Tryz.prog ++ Tryz.f3.resultTypes.toList) : Bool) = true := by kernel_rfl
theorem engineNoneJoined : joinedFacts Tryz.pinned.checked.prog 3 Tryz.f3 Rows.engineNoneSpec Rows.engineNoneRow = true := (and_yes (and_yes (and_yes (and_yes (and_yes (and_yes (and_yes (and_yes (and_yes (and_yes (and_yes (and_yes (and_yes (and_yes (and_yes (and_yes (and_yes (and_yes (and_yes (and_yes (and_yes (and_yes (and_yes (and_yes (and_yes (and_yes (and_yes (and_yes (and_yes (and_yes (and_yes engineNoneJ0 engineNoneJ1) engineNoneJ2) engineNoneJ3) engineNoneJ4) engineNoneJ5) engineNoneJ6) engineNoneJ7) engineNoneJ8) engineNoneJ9) engineNoneJ10) engineNoneJ11) engineNoneJ12) engineNoneJ13) engineNoneJ14) engineNoneJ15) engineNoneJ16) engineNoneJ17) engineNoneJ18) engineNoneJ19) engineNoneJ20) engineNoneJ21) engineNoneJ22) engineNoneJ23) engineNoneJ24) engineNoneJ25) engineNoneJ26) engineNoneJ27) engineNoneJ28) engineNoneJ29) engineNoneJ30) engineNoneJ31)
end Go.Proofs.YtmaccpaiaidgpaaGreatDoor

