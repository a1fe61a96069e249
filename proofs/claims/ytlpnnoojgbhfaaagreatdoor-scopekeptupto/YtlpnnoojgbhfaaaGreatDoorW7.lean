/- CLOSED CALLS, run by the kernel. -/
import Derived.Test.YtlpnnoojgbhfaaaGreatDoorW6
set_option linter.all false
namespace Go.AM
set_option maxRecDepth 1000000
theorem lexCheck_run0 : Runs progW7 135 [.pslice [.int .i64 1, .str [102], .int .i64 1, .int .i64 1, .int .i64 7, .str [61], .int .i64 1, .int .i64 3, .int .i64 8, .str [40], .int .i64 1, .int .i64 5, .int .i64 8, .str [124], .int .i64 1, .int .i64 7, .int .i64 1, .str [120], .int .i64 1, .int .i64 9, .int .i64 8, .str [124], .int .i64 1, .int .i64 11, .int .i64 8, .str [91], .int .i64 1, .int .i64 13, .int .i64 1, .str [120], .int .i64 1, .int .i64 15, .int .i64 8, .str [93], .int .i64 1, .int .i64 17, .int .i64 8, .str [41], .int .i64 1, .int .i64 19] 0 10 none] (.int .i64 0) := runs_of (n := 300) (by kernel_rfl)
def lexCheckT : List (List AV × AV) := [([.pslice [.int .i64 1, .str [102], .int .i64 1, .int .i64 1, .int .i64 7, .str [61], .int .i64 1, .int .i64 3, .int .i64 8, .str [40], .int .i64 1, .int .i64 5, .int .i64 8, .str [124], .int .i64 1, .int .i64 7, .int .i64 1, .str [120], .int .i64 1, .int .i64 9, .int .i64 8, .str [124], .int .i64 1, .int .i64 11, .int .i64 8, .str [91], .int .i64 1, .int .i64 13, .int .i64 1, .str [120], .int .i64 1, .int .i64 15, .int .i64 8, .str [93], .int .i64 1, .int .i64 17, .int .i64 8, .str [41], .int .i64 1, .int .i64 19] 0 10 none], .int .i64 0)]
theorem lexCheck_runs : AllRuns progW7 135 lexCheckT := ⟨lexCheck_run0, trivial⟩
noncomputable def progW8 : Nat → Option AFun := withSpec progW7 135 (anyOf lexCheckT)
end Go.AM
