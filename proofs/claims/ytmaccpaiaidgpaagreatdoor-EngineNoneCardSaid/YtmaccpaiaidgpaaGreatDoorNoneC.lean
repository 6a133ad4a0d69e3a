/- EngineNone: a start that fits exists; the program starts no goroutine. -/
import Derived.Test.YtmaccpaiaidgpaaGreatDoorNoneB
namespace Go.Proofs.YtmaccpaiaidgpaaGreatDoor
open Go Go.Mir Go.ChangeShapes Go.WideShapes Go.ChangeAt Go.RowKit
set_option maxRecDepth 100000
noncomputable def zArgs : Array Value := #[.agg #[.int .i64 0, .int .i64 0, .int .i64 0, .int .i64 0, .int .i64 0, .slice none 0 0, .slice none 0 0, .slice none 0 0]]
noncomputable abbrev wz (os : Os) : World := (World.laidAll Tryz.prog os Rows.engineNoneRow.laid).forCall (fun _ _ => 0) { blocks := #[], args := zArgs }
theorem wA (os : Os) : World.variablesZipB Tryz.prog (wz os) = true := by kernel_rfl
theorem wB (os : Os) : List.take ((begin Tryz.prog (fun _ _ => 0) default).world.heap.size - Tryz.prog.globals.size) (List.drop Tryz.prog.globals.size (wz os).heap.toList) = List.drop Tryz.prog.globals.size (begin Tryz.prog (fun _ _ => 0) default).world.heap.toList := by kernel_rfl
theorem wC (os : Os) : Input.okWideB Tryz.prog (wz os) 3 { blocks := #[], args := zArgs } = true := by kernel_rfl
theorem wD (X : Type) (enc : TypeId × Value → X) (os : Os) : ChangeSpec.preB enc Tryz.prog Tryz.f3 Rows.engineNoneSpec [] false (wz os).memory zArgs 8 = true := by kernel_rfl
theorem wE (X : Type) (enc : TypeId × Value → X) (os : Os) : ChangeSpec.sizedB enc Tryz.prog Tryz.f3 Rows.engineNoneSpec false (wz os).memory zArgs 8 = true := by kernel_rfl
theorem wF (os : Os) : World.layFits Tryz.prog (World.holding Tryz.prog os { blocks := #[], args := #[] }) Rows.engineNoneRow.laid [] = true := by kernel_rfl
theorem wG (os : Os) : World.layIfaces Tryz.prog (World.holding Tryz.prog os { blocks := #[], args := #[] }) Rows.engineNoneRow.laid (World.laidAll Tryz.prog os Rows.engineNoneRow.laid) = true := by kernel_rfl
theorem noInit3 : Tryz.checked.prog.inits.idxOf? 3 = none := by kernel_rfl
theorem laidPlain : (Rows.engineNoneRow.laid.all fun x => x.2.handleName?.isNone) = true := by kernel_rfl
theorem laid_met (os : Os) : laidMetH Tryz.prog Rows.engineNoneRow.laid (wz os).memory := by
  rw [MakeChecks.laidMetH_plain _ _ _ laidPlain]; exact laidMet_laidAll zArgs (wF os) (wG os)
theorem engineNone_lifted (os : Os) (started : os.Started) (X : Type) (enc : TypeId × Value → X) :
    ReturnsInHanded {} Tryz.checked os 3 .any (fun w args => (Rows.engineNoneSpec.pre enc Tryz.prog Tryz.f3 [] false w args ∧ laidMetH Tryz.prog Rows.engineNoneRow.laid w) ∧ sizedMet enc Tryz.prog Tryz.f3 (OpenSpec.ofChange Rows.engineNoneSpec) false w args)
      (Rows.engineNoneSpec.post enc Tryz.prog Tryz.f3 false true false false) :=
  returnsInHanded_of_change_and (C := Tryz.checked) (X := fun w _ => laidMetH Tryz.prog Rows.engineNoneRow.laid w) (fun _ _ _ hh h => h.of_heap hh) own started noInit3 Tryz.func3
    (ChangeSpec.witness_shaped (enc := enc) (C := Tryz.checked) (os := os) (X := fun w _ => laidMetH Tryz.prog Rows.engineNoneRow.laid w) false (World.laidAll Tryz.prog os Rows.engineNoneRow.laid) zArgs 8 (World.laidAll_os _ _ _)
      (World.shaped_of_ZipB (wA os) (wB os)) (wC os) (wD X enc os) (wE X enc os) (laid_met os))
    (fun W base args ds gs before hval hW _ hZ _ _ => engineNone_contract X enc W base args ds gs before hval hW hZ)
end Go.Proofs.YtmaccpaiaidgpaaGreatDoor

namespace Go.Proofs.YtmaccpaiaidgpaaGreatDoor
open Go
/-- No function of the program starts a goroutine. -/
theorem none_goes : Tryz.prog.funcs.toList.any Func.goes = false := by kernel_rfl
theorem goes_none (f : FuncId) : Tryz.prog.goes f = false := by
  have h : ∀ g fn, Tryz.prog.funcs[g]? = some fn → Func.goes fn = false := fun g fn hg => by
    have := List.any_eq_false.1 none_goes fn (by
      have := Array.mem_of_getElem? hg
      simpa using this)
    simpa using this
  have h2 : Tryz.prog.funcs.any Func.goes = false := by
    rw [← Array.any_toList]; exact none_goes
  unfold Program.goes
  rw [h2, Bool.and_false, Bool.or_false]
  rw [List.any_eq_false]
  intro g _
  cases hg : Tryz.prog.funcs[g]? with
  | none => simp
  | some fn => simp [h g fn hg]
end Go.Proofs.YtmaccpaiaidgpaaGreatDoor

