/- CLOSED CALLS, run by the kernel. -/
import Derived.Test.YtlpnnoojgbhfaaaGreatDoorW7
set_option linter.all false
namespace Go.AM
set_option maxRecDepth 1000000
theorem parseCheck_run0 : Runs progW8 228 [.agg [.int .i64 5, .str [], .int .i64 1, .pslice [.int .i64 7, .str [120], .int .i64 2, .nilslice, .int .i64 6, .str [], .int .i64 0, .pslice [.int .i64 9, .str [120], .int .i64 0, .nilslice] 0 1 none] 0 2 none]] (.int .i64 0) := runs_of (n := 300) (by kernel_rfl)
def parseCheckT : List (List AV × AV) := [([.agg [.int .i64 5, .str [], .int .i64 1, .pslice [.int .i64 7, .str [120], .int .i64 2, .nilslice, .int .i64 6, .str [], .int .i64 0, .pslice [.int .i64 9, .str [120], .int .i64 0, .nilslice] 0 1 none] 0 2 none]], .int .i64 0)]
theorem parseCheck_runs : AllRuns progW8 228 parseCheckT := ⟨parseCheck_run0, trivial⟩
noncomputable def progW9 : Nat → Option AFun := withSpec progW8 228 (anyOf parseCheckT)
end Go.AM
