/- CLOSED FACTS OF ScopeKept's CARD. -/
import Derived.Test.YtlpnnoojgbhfaaaGreatDoorCards
import Derived.SevenTiedAt
import Derived.KernelRfl
set_option linter.all false
namespace Go.Proofs.YtlpnnoojgbhfaaaGreatDoor
open Go
theorem looks3 : true = Tryz.prog.looks [] := by kernel_rfl
theorem wants22 : Tryz.prog.wantsStandIn 22 = false := by kernel_rfl
theorem wants23 : Tryz.prog.wantsStandIn 23 = false := by kernel_rfl
theorem byText3 : Rows.scopeKeptUptoRow.wfByText (Rows.OpenSpec.upto Rows.scopeKeptSpec) = true := by kernel_rfl
theorem main3 : Tryz.prog.mainIs = some (true, "2faa01265a383c16b24628b61c744aa2a3ba5471bf986055db91e2ca946d67b2".toList) := by kernel_rfl
end Go.Proofs.YtlpnnoojgbhfaaaGreatDoor
