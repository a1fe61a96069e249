/- THE CLOSED FACTS OF ScopeKept's ROW, each a theorem of its own. -/
import Derived.Test.YtlpnnoojgbhfaaaGreatDoorRows
import Derived.JoinedOf
import Derived.JoinedCond
import Derived.KernelRfl
set_option linter.all false
namespace Go.Proofs.YtlpnnoojgbhfaaaGreatDoor
open Go
noncomputable def factS : ChangeSpec := (Rows.OpenSpec.upto Rows.scopeKeptSpec).bare
theorem fact0 : Rows.scopeKeptUptoRow.wf (OpenSpec.ofChange factS) = true := by kernel_rfl
theorem fact1 : laidOutB Tryz.prog = true := by kernel_rfl
theorem fact2 : mapsRowed Tryz.prog = true := by kernel_rfl
theorem fact3 : Tryz.f3.params.all (Tryz.prog.readableRec ·) = true := by kernel_rfl
theorem fact4 : namedTie Tryz.prog Rows.scopeKeptUptoRow.named factS.vars = true := by kernel_rfl
theorem fact5 : (Rows.scopeKeptUptoRow.stops == []) = true := by kernel_rfl
theorem fact6 : (Tryz.prog.stops == []) = true := by kernel_rfl
theorem fact7 : (Rows.scopeKeptUptoRow.knobs == []) = true := by kernel_rfl
theorem fact8 : (Tryz.prog.stopKnobs == []) = true := by kernel_rfl
theorem fact9 : (Rows.scopeKeptUptoRow.inPlace == Tryz.prog.inPlace 3) = true := by kernel_rfl
theorem fact10 : (Rows.scopeKeptUptoRow.unfollowed == Tryz.prog.unfollowed 3) = true := by kernel_rfl
theorem fact11 : (Rows.scopeKeptUptoRow.recurses == Tryz.prog.recurses 3) = true := by kernel_rfl
end Go.Proofs.YtlpnnoojgbhfaaaGreatDoor
