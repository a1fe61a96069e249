/- CLOSED CALLS, run by the kernel. -/
import Derived.Test.YtlpnnoojgbhfaaaGreatDoorW8
set_option linter.all false
namespace Go.AM
set_option maxRecDepth 1000000
theorem awake_run : Runs progW9 4 [] (.bool true) := runs_of (n := 300) (by kernel_rfl)
end Go.AM
