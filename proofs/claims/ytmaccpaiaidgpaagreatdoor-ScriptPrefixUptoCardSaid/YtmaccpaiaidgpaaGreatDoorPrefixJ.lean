/- ScriptPrefix: the closed facts of its row. -/
import Derived.Test.YtmaccpaiaidgpaaGreatDoorKit
namespace Go.Proofs.YtmaccpaiaidgpaaGreatDoor
open Go
set_option maxRecDepth 100000
theorem and_yesP {a b : Bool} (h : a = true) (k : b = true) : (a && b) = true := by rw [h, k]; rfl
theorem scriptPrefixJ0 : (Rows.scriptPrefixUptoRow.wf (OpenSpec.ofChange Rows.scriptPrefixSpec) : Bool) = true := by kernel_rfl
theorem scriptPrefixJ1 : (laidOutB Tryz.prog : Bool) = true := by kernel_rfl
theorem scriptPrefixJ2 : (mapsRowed Tryz.prog : Bool) = true := by kernel_rfl
theorem scriptPrefixJ3 : (Tryz.f7.params.all (Tryz.prog.readableRec ·) : Bool) = true := by kernel_rfl
theorem scriptPrefixJ4 : (namedTie Tryz.prog Rows.scriptPrefixUptoRow.named Rows.scriptPrefixSpec.vars : Bool) = true := by kernel_rfl
theorem scriptPrefixJ5 : ((Rows.scriptPrefixUptoRow.stops == []) : Bool) = true := by kernel_rfl
theorem scriptPrefixJ6 : ((Tryz.prog.stops == []) : Bool) = true := by kernel_rfl
theorem scriptPrefixJ7 : ((Rows.scriptPrefixUptoRow.knobs == []) : Bool) = true := by kernel_rfl
theorem scriptPrefixJ8 : ((Tryz.prog.stopKnobs == []) : Bool) = true := by kernel_rfl
theorem scriptPrefixJ9 : ((Rows.scriptPrefixUptoRow.inPlace == Tryz.prog.inPlace 7) : Bool) = true := by kernel_rfl
theorem scriptPrefixJ10 : ((Rows.scriptPrefixUptoRow.unfollowed == Tryz.prog.unfollowed 7) : Bool) = true := by kernel_rfl
theorem scriptPrefixJ11 : ((Rows.scriptPrefixUptoRow.recurses == Tryz.prog.recurses 7) : Bool) = true := by kernel_rfl
theorem scriptPrefixJ12 : ((Rows.scriptPrefixUptoRow.named == Tryz.prog.varsNamed 7) : Bool) = true := by kernel_rfl
theorem scriptPrefixJ13 : ((Rows.scriptPrefixUptoRow.maps == (Tryz.f7.params.toList ++ Rows.scriptPrefixSpec.plain.varTypes Tryz.prog).any (Tryz.prog.mapsRec ·)) : Bool) = true := by kernel_rfl
theorem scriptPrefixJ14 : ((Rows.scriptPrefixUptoRow.ifaces == (Tryz.f7.params.toList ++ Rows.scriptPrefixSpec.plain.varTypes Tryz.prog).any (Tryz.prog.ifacesRec ·)) : Bool) = true := by kernel_rfl
theorem scriptPrefixJ15 : ((Rows.scriptPrefixUptoRow.mapsOut == Tryz.prog.mapsAmong Tryz.f7.resultTypes.toList) : Bool) = true := by kernel_rfl
theorem scriptPrefixJ16 : ((Rows.scriptPrefixUptoRow.loops == (Tryz.f7.params.toList ++ Rows.scriptPrefixSpec.plain.varTypes Tryz.prog).any (Tryz.prog.loopsFrom ·)) : Bool) = true := by kernel_rfl
theorem scriptPrefixJ17 : ((Rows.scriptPrefixUptoRow.wideKeys == (Tryz.f7.params.toList ++ Rows.scriptPrefixSpec.plain.varTypes Tryz.prog ++ Tryz.f7.resultTypes.toList).any (Tryz.prog.wideKeysFrom ·)) : Bool) = true := by kernel_rfl
theorem scriptPrefixJ18 : (Rows.scriptPrefixSpec.vars.all (Tryz.prog.varReadable ·) : Bool) = true := by kernel_rfl
theorem scriptPrefixJ19 : (Tryz.f7.resultTypes.all (fun t => Tryz.prog.readableRec t && decide (t < Tryz.prog.types.size)) : Bool) = true := by kernel_rfl
theorem scriptPrefixJ20 : ((Rows.scriptPrefixUptoRow.ifacesOut == Tryz.f7.resultTypes.toList.any (Tryz.prog.ifacesRec ·)) : Bool) = true := by kernel_rfl
theorem scriptPrefixJ21 : ((Rows.scriptPrefixUptoRow.loopsOut == Tryz.f7.resultTypes.toList.any (Tryz.prog.loopsFrom ·)) : Bool) = true := by kernel_rfl
theorem scriptPrefixJ22 : ((Rows.scriptPrefixUptoRow.plainKeys == Tryz.prog.plainKeys) : Bool) = true := by kernel_rfl
theorem scriptPrefixJ23 : (Rows.scriptPrefixUptoRow.shortTexts.isNone : Bool) = true := by kernel_rfl
theorem scriptPrefixJ24 : (Tryz.prog.stopsHeard : Bool) = true := by kernel_rfl
theorem scriptPrefixJ25 : (Tryz.prog.mayEnter : Bool) = true := by kernel_rfl
theorem scriptPrefixJ26 : ((Rows.scriptPrefixUptoRow.lifted == Tryz.prog.liftsFinal) : Bool) = true := by kernel_rfl
theorem scriptPrefixJ27 : ((Tryz.prog.make == some Rows.scriptPrefixUptoRow.make) : Bool) = true := by kernel_rfl
theorem scriptPrefixJ28 : ((Rows.scriptPrefixUptoRow.kinds == (if Rows.scriptPrefixUptoRow.domain.isEmpty then [] else Tryz.f7.params.toList.map fun t => match Tryz.prog.underlying t with | some (.int k) => some k | _ => none)) : Bool) = true := by kernel_rfl
theorem scriptPrefixJ29 : ((Rows.scriptPrefixUptoRow.pinned == Rows.scriptPrefixUptoRow.pinnedBy) : Bool) = true := by kernel_rfl
theorem scriptPrefixJ30 : ((Rows.scriptPrefixUptoRow.veiled == (Tryz.f7.params.toList ++ Rows.scriptPrefixSpec.plain.varTypes Tryz.prog ++ Tryz.f7.resultTypes.toList).any (Tryz.prog.veiledRec ·)) : Bool) = true := by kernel_rfl
theorem scriptPrefixJ31 : (Rows.scriptPrefixUptoRow.veiledFits Tryz.prog Tryz.f7.params.toList (Tryz.f7.params.toList ++ Rows.scriptPrefixSpec.plain.varTypes Tryz.prog ++ Tryz.f7.resultTypes.toList) : Bool) = true := by kernel_rfl
theorem scriptPrefixJoined : joinedFacts Tryz.pinned.checked.prog 7 Tryz.f7 Rows.scriptPrefixSpec Rows.scriptPrefixUptoRow = true := (and_yesP (and_yesP (and_yesP (and_yesP (and_yesP (and_yesP (and_yesP (and_yesP (and_yesP (and_yesP (and_yesP (and_yesP (and_yesP (and_yesP (and_yesP (and_yesP (and_yesP (and_yesP (and_yesP (and_yesP (and_yesP (and_yesP (and_yesP (and_yesP (and_yesP (and_yesP (and_yesP (and_yesP (and_yesP (and_yesP (and_yesP scriptPrefixJ0 scriptPrefixJ1) scriptPrefixJ2) scriptPrefixJ3) scriptPrefixJ4) scriptPrefixJ5) scriptPrefixJ6) scriptPrefixJ7) scriptPrefixJ8) scriptPrefixJ9) scriptPrefixJ10) scriptPrefixJ11) scriptPrefixJ12) scriptPrefixJ13) scriptPrefixJ14) scriptPrefixJ15) scriptPrefixJ16) scriptPrefixJ17) scriptPrefixJ18) scriptPrefixJ19) scriptPrefixJ20) scriptPrefixJ21) scriptPrefixJ22) scriptPrefixJ23) scriptPrefixJ24) scriptPrefixJ25) scriptPrefixJ26) scriptPrefixJ27) scriptPrefixJ28) scriptPrefixJ29) scriptPrefixJ30) scriptPrefixJ31)
end Go.Proofs.YtmaccpaiaidgpaaGreatDoor

