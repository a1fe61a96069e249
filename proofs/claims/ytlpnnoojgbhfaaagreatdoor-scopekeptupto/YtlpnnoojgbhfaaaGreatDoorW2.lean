/- CLOSED CALLS, run by the kernel. -/
import Derived.Test.YtlpnnoojgbhfaaaGreatDoorW1
set_option linter.all false
namespace Go.AM
set_option maxRecDepth 1000000
theorem codeCheck_run0 : Runs progW2 123 [.nilslice] (.int .i64 0) := runs_of (n := 300) (by kernel_rfl)
theorem codeCheck_run1 : Runs progW2 123 [.pslice [.str [102], .bool false, .int .i64 (-1), .int .i64 0, .pslice [.str [120]] 0 1 none, .pslice [.int .i64 4, .int .i64 1, .str []] 0 1 none, .nilslice, .nilslice, .pslice [.int .i64 7, .int .i64 1, .int .i64 0, .int .i64 0, .int .i64 9, .int .i64 0, .int .i64 0, .int .i64 0] 0 2 none, .str [118, 97, 108, 117, 101], .bool true, .int .i64 0, .int .i64 0, .nilslice, .nilslice, .nilslice, .pslice [.str [120]] 0 1 none, .pslice [.int .i64 4, .int .i64 0, .int .i64 0, .int .i64 0, .int .i64 9, .int .i64 0, .int .i64 0, .int .i64 0] 0 2 none] 0 2 none] (.int .i64 0) := runs_of (n := 300) (by kernel_rfl)
def codeCheckT : List (List AV × AV) := [([.nilslice], .int .i64 0), ([.pslice [.str [102], .bool false, .int .i64 (-1), .int .i64 0, .pslice [.str [120]] 0 1 none, .pslice [.int .i64 4, .int .i64 1, .str []] 0 1 none, .nilslice, .nilslice, .pslice [.int .i64 7, .int .i64 1, .int .i64 0, .int .i64 0, .int .i64 9, .int .i64 0, .int .i64 0, .int .i64 0] 0 2 none, .str [118, 97, 108, 117, 101], .bool true, .int .i64 0, .int .i64 0, .nilslice, .nilslice, .nilslice, .pslice [.str [120]] 0 1 none, .pslice [.int .i64 4, .int .i64 0, .int .i64 0, .int .i64 0, .int .i64 9, .int .i64 0, .int .i64 0, .int .i64 0] 0 2 none] 0 2 none], .int .i64 0)]
theorem codeCheck_runs : AllRuns progW2 123 codeCheckT := ⟨codeCheck_run0, codeCheck_run1, trivial⟩
noncomputable def progW3 : Nat → Option AFun := withSpec progW2 123 (anyOf codeCheckT)
end Go.AM
