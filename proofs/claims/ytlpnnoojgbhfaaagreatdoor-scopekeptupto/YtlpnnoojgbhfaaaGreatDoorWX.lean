/- CLOSED CALLS, run by the kernel. -/
import Derived.Test.YtlpnnoojgbhfaaaGreatDoorW9
set_option linter.all false
namespace Go.AM
set_option maxRecDepth 1000000
theorem follows_any : tbT.P.follows .mixedOrders = true := by kernel_rfl
theorem progW1_ok : ProgOK tbT progW1 := withSpec_ok progT_ok (tabS_ok follows_any progT_ok kind_runs)
theorem progW2_ok : ProgOK tbT progW2 := withSpec_ok progW1_ok (tabS_ok follows_any progW1_ok arity_runs)
theorem progW3_ok : ProgOK tbT progW3 := withSpec_ok progW2_ok (anyOf_ok follows_any progW2_ok codeCheck_runs)
theorem progW4_ok : ProgOK tbT progW4 := withSpec_ok progW3_ok (anyOf_ok follows_any progW3_ok worldCheck_runs)
theorem progW5_ok : ProgOK tbT progW5 := withSpec_ok progW4_ok (anyOf_ok follows_any progW4_ok depsCheck_runs)
theorem progW6_ok : ProgOK tbT progW6 := withSpec_ok progW5_ok (anyOf_ok follows_any progW5_ok symCheck_runs)
theorem progW7_ok : ProgOK tbT progW7 := withSpec_ok progW6_ok (anyOf_ok follows_any progW6_ok asked_runs)
theorem progW8_ok : ProgOK tbT progW8 := withSpec_ok progW7_ok (anyOf_ok follows_any progW7_ok lexCheck_runs)
theorem progW9_ok : ProgOK tbT progW9 := withSpec_ok progW8_ok (anyOf_ok follows_any progW8_ok parseCheck_runs)
theorem awake_ok : SpecOK tbT 4 (one [] (.bool true)) := one_ok follows_any progW9_ok awake_run
end Go.AM
