/- CLOSED CALLS, run by the kernel. -/
import Derived.Test.YtlpnnoojgbhfaaaGreatDoorW0
set_option linter.all false
namespace Go.AM
set_option maxRecDepth 1000000
def arityT : List (List UInt8 × AV) := [([110, 105, 108], .int .i64 0), ([116, 114, 117, 101], .int .i64 0), ([102, 97, 108, 115, 101], .int .i64 0), ([108, 111, 98, 98, 121], .int .i64 0), ([105, 110, 116, 101, 103, 101, 114], .int .i64 0), ([115, 116, 114, 105, 110, 103], .int .i64 0), ([118, 101, 99, 116, 111, 114], .int .i64 0), ([98, 108, 111, 99, 107], .int .i64 0), ([109, 105, 114, 114, 111, 114], .int .i64 0), ([115, 101, 109, 97, 112, 104, 111, 114, 101], .int .i64 0), ([102], .int .i64 0), ([120], .int .i64 0)]
theorem arity_runs : AllRun progW1 306 arityT := ⟨runs_of (n := 200) (by kernel_rfl), runs_of (n := 200) (by kernel_rfl), runs_of (n := 200) (by kernel_rfl), runs_of (n := 200) (by kernel_rfl), runs_of (n := 200) (by kernel_rfl), runs_of (n := 200) (by kernel_rfl), runs_of (n := 200) (by kernel_rfl), runs_of (n := 200) (by kernel_rfl), runs_of (n := 200) (by kernel_rfl), runs_of (n := 200) (by kernel_rfl), runs_of (n := 200) (by kernel_rfl), runs_of (n := 200) (by kernel_rfl), trivial⟩
noncomputable def progW2 : Nat → Option AFun := withSpec progW1 306 (tabS arityT)
end Go.AM
