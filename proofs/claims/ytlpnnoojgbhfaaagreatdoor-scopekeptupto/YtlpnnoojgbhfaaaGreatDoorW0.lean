/- CLOSED CALLS, run by the kernel. -/
import Derived.Test.YtlpnnoojgbhfaaaGreatDoorP
import Derived.KernelRfl
set_option linter.all false
namespace Go.AM
set_option maxRecDepth 1000000
def kindT : List (List UInt8 × AV) := [([110, 105, 108], .int .i64 1), ([116, 114, 117, 101], .int .i64 1), ([102, 97, 108, 115, 101], .int .i64 1), ([108, 111, 98, 98, 121], .int .i64 1), ([105, 110, 116, 101, 103, 101, 114], .int .i64 1), ([115, 116, 114, 105, 110, 103], .int .i64 1), ([118, 101, 99, 116, 111, 114], .int .i64 1), ([98, 108, 111, 99, 107], .int .i64 1), ([109, 105, 114, 114, 111, 114], .int .i64 1), ([115, 101, 109, 97, 112, 104, 111, 114, 101], .int .i64 1), ([102], .int .i64 1), ([61], .int .i64 7), ([40], .int .i64 8), ([124], .int .i64 8), ([120], .int .i64 1), ([91], .int .i64 8), ([93], .int .i64 8), ([41], .int .i64 8)]
theorem kind_runs : AllRun progT 284 kindT := ⟨runs_of (n := 200) (by kernel_rfl), runs_of (n := 200) (by kernel_rfl), runs_of (n := 200) (by kernel_rfl), runs_of (n := 200) (by kernel_rfl), runs_of (n := 200) (by kernel_rfl), runs_of (n := 200) (by kernel_rfl), runs_of (n := 200) (by kernel_rfl), runs_of (n := 200) (by kernel_rfl), runs_of (n := 200) (by kernel_rfl), runs_of (n := 200) (by kernel_rfl), runs_of (n := 200) (by kernel_rfl), runs_of (n := 200) (by kernel_rfl), runs_of (n := 200) (by kernel_rfl), runs_of (n := 200) (by kernel_rfl), runs_of (n := 200) (by kernel_rfl), runs_of (n := 200) (by kernel_rfl), runs_of (n := 200) (by kernel_rfl), runs_of (n := 200) (by kernel_rfl), trivial⟩
noncomputable def progW1 : Nat → Option AFun := withSpec progT 284 (tabS kindT)
end Go.AM
