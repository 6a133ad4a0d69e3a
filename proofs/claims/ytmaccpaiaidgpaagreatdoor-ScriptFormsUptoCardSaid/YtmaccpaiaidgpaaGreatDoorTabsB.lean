/- All functions of the tables are of the form that the evaluator asks. -/
import Derived.Test.YtmaccpaiaidgpaaGreatDoorTabs
namespace Go.Proofs.YtmaccpaiaidgpaaGreatDoor
open Go Go.Mir
theorem okAt : allTB (okF cx) fns = true := by kernel_rfl
theorem cxOk : CtxOk cx := ctxOk (by decide) tyAt fnAt extAt litAt okAt mixedAt
end Go.Proofs.YtmaccpaiaidgpaaGreatDoor

