/- ScriptOnly: the closed facts of its row. -/
import Derived.Test.YtmaccpaiaidgpaaGreatDoorKit
namespace Go.Proofs.YtmaccpaiaidgpaaGreatDoor
open Go
set_option maxRecDepth 100000
theorem and_yes {a b : Bool} (h : a = true) (k : b = true) : (a && b) = true := by rw [h, k]; rfl
theorem scriptOnlyJ0 : (Rows.scriptOnlyRow.wf (OpenSpec.ofChange Rows.scriptOnlySpec) : Bool) = true := by kernel_rfl
theorem scriptOnlyJ1 : (laidOutB Tryz.prog : Bool) = true := by kernel_rfl
theorem scriptOnlyJ2 : (mapsRowed Tryz.prog : Bool) = true := by kernel_rfl
theorem scriptOnlyJ3 : (Tryz.f6.params.all (Tryz.prog.readableRec ·) : Bool) = true := by kernel_rfl
theorem scriptOnlyJ4 : (namedTie Tryz.prog Rows.scriptOnlyRow.named Rows.scriptOnlySpec.vars : Bool) = true := by kernel_rfl
theorem scriptOnlyJ5 : ((Rows.scriptOnlyRow.stops == []) : Bool) = true := by kernel_rfl
theorem scriptOnlyJ6 : ((Tryz.prog.stops == []) : Bool) = true := by kernel_rfl
theorem scriptOnlyJ7 : ((Rows.scriptOnlyRow.knobs == []) : Bool) = true := by kernel_rfl
theorem scriptOnlyJ8 : ((Tryz.prog.stopKnobs == []) : Bool) = true := by kernel_rfl
theorem scriptOnlyJ9 : ((Rows.scriptOnlyRow.inPlace == Tryz.prog.inPlace 6) : Bool) = true := by kernel_rfl
theorem scriptOnlyJ10 : ((Rows.scriptOnlyRow.unfollowed == Tryz.prog.unfollowed 6) : Bool) = true := by kernel_rfl
theorem scriptOnlyJ11 : ((Rows.scriptOnlyRow.recurses == Tryz.prog.recurses 6) : Bool) = true := by kernel_rfl
theorem scriptOnlyJ12 : ((Rows.scriptOnlyRow.named == Tryz.prog.varsNamed 6) : Bool) = true := by kernel_rfl
theorem scriptOnlyJ13 : ((Rows.scriptOnlyRow.maps == (Tryz.f6.params.toList ++ Rows.scriptOnlySpec.plain.varTypes Tryz.prog).any (Tryz.prog.mapsRec ·)) : Bool) = true := by kernel_rfl
theorem scriptOnlyJ14 : ((Rows.scriptOnlyRow.ifaces == (Tryz.f6.params.toList ++ Rows.scriptOnlySpec.plain.varTypes Tryz.prog).any (Tryz.prog.ifacesRec ·)) : Bool) = true := by kernel_rfl
theorem scriptOnlyJ15 : ((Rows.scriptOnlyRow.mapsOut == Tryz.prog.mapsAmong Tryz.f6.resultTypes.toList) : Bool) = true := by kernel_rfl
theorem scriptOnlyJ16 : ((Rows.scriptOnlyRow.loops == (Tryz.f6.params.toList ++ Rows.scriptOnlySpec.plain.varTypes Tryz.prog).any (Tryz.prog.loopsFrom ·)) : Bool) = true := by kernel_rfl
theorem scriptOnlyJ17 : ((Rows.scriptOnlyRow.wideKeys == (Tryz.f6.params.toList ++ Rows.scriptOnlySpec.plain.varTypes Tryz.prog ++ Tryz.f6.resultTypes.toList).any (Tryz.prog.wideKeysFrom ·)) : Bool) = true := by kernel_rfl
theorem scriptOnlyJ18 : (Rows.scriptOnlySpec.vars.all (Tryz.prog.varReadable ·) : Bool) = true := by kernel_rfl
theorem scriptOnlyJ19 : (Tryz.f6.resultTypes.all (fun t => Tryz.prog.readableRec t && decide (t < Tryz.prog.types.size)) : Bool) = true := by kernel_rfl
theorem scriptOnlyJ20 : ((Rows.scriptOnlyRow.ifacesOut == Tryz.f6.resultTypes.toList.any (Tryz.prog.ifacesRec ·)) : Bool) = true := by kernel_rfl
theorem scriptOnlyJ21 : ((Rows.scriptOnlyRow.loopsOut == Tryz.f6.resultTypes.toList.any (Tryz.prog.loopsFrom ·)) : Bool) = true := by kernel_rfl
theorem scriptOnlyJ22 : ((Rows.scriptOnlyRow.plainKeys == Tryz.prog.plainKeys) : Bool) = true := by kernel_rfl
theorem scriptOnlyJ23 : (Rows.scriptOnlyRow.shortTexts.isNone : Bool) = true := by kernel_rfl
theorem scriptOnlyJ24 : (Tryz.prog.stopsHeard : Bool) = true := by kernel_rfl
theorem scriptOnlyJ25 : (Tryz.prog.mayEnter : Bool) = true := by kernel_rfl
theorem scriptOnlyJ26 : ((Rows.scriptOnlyRow.lifted == Tryz.prog.liftsFinal) : Bool) = true := by kernel_rfl
theorem scriptOnlyJ27 : ((Tryz.prog.make == some Rows.scriptOnlyRow.make) : Bool) = true := by kernel_rfl
theorem scriptOnlyJ28 : ((Rows.scriptOnlyRow.kinds == (if Rows.scriptOnlyRow.domain.isEmpty then [] else Tryz.f6.params.toList.map fun t => match Tryz.prog.underlying t with | some (.int k) => some k | _ => none)) : Bool) = true := by kernel_rfl
theorem scriptOnlyJ29 : ((Rows.scriptOnlyRow.pinned == Rows.scriptOnlyRow.pinnedBy) : Bool) = true := by kernel_rfl
theorem scriptOnlyJ30 : ((Rows.scriptOnlyRow.veiled == (Tryz.f6.params.toList ++ Rows.scriptOnlySpec.plain.varTypes Tryz.prog ++ Tryz.f6.resultTypes.toList).any (Tryz.prog.veiledRec ·)) : Bool) = true := by kernel_rfl
theorem scriptOnlyJ31 : (Rows.scriptOnlyRow.veiledFits Tryz.prog Tryz.f6.params.toList (Tryz.f6.params.toList ++ Rows.scriptOnlySpec.plain.varTypes Tryz.prog ++ Tryz.f6.resultTypes.toList) : Bool) = true := by kernel_rfl
theorem scriptOnlyJoined : joinedFacts Tryz.pinned.checked.prog 6 Tryz.f6 Rows.scriptOnlySpec Rows.scriptOnlyRow = true := (and_yes (and_yes (and_yes (and_yes (and_yes (and_yes (and_yes (and_yes (and_yes (and_yes (and_yes (and_yes (and_yes (and_yes (and_yes (and_yes (and_yes (and_yes (and_yes (and_yes (and_yes (and_yes (and_yes (and_yes (and_yes (and_yes (and_yes (and_yes (and_yes (and_yes (and_yes scriptOnlyJ0 scriptOnlyJ1) scriptOnlyJ2) scriptOnlyJ3) scriptOnlyJ4) scriptOnlyJ5) scriptOnlyJ6) scriptOnlyJ7) scriptOnlyJ8) scriptOnlyJ9) scriptOnlyJ10) scriptOnlyJ11) scriptOnlyJ12) scriptOnlyJ13) scriptOnlyJ14) scriptOnlyJ15) scriptOnlyJ16) scriptOnlyJ17) scriptOnlyJ18) scriptOnlyJ19) scriptOnlyJ20) scriptOnlyJ21) scriptOnlyJ22) scriptOnlyJ23) scriptOnlyJ24) scriptOnlyJ25) scriptOnlyJ26) scriptOnlyJ27) scriptOnlyJ28) scriptOnlyJ29) scriptOnlyJ30) scriptOnlyJ31)
end Go.Proofs.YtmaccpaiaidgpaaGreatDoor

