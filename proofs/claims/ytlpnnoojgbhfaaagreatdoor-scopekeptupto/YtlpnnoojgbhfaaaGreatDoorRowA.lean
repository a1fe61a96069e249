/- CLOSED FACTS OF ScopeKept's ROW: of the listed variables, and of a world that fits. -/
import Derived.Test.YtlpnnoojgbhfaaaGreatDoorCards
import Derived.ProofKit
import Derived.Deep.DeepHandedRow
import Derived.Deep.DeepWitnessRowRef
import Derived.Stop.LaidErr
import Derived.LaidLaws
import Derived.Lay
import Derived.WideKeyArgs
import Derived.KernelRfl
set_option linter.all false
namespace Go.Proofs.YtlpnnoojgbhfaaaGreatDoor
open Go.ChangeShapes Go.WideShapes Go.ChangeAt Go.RowKit

theorem own : ownKnob Tryz.prog.godebug = none := by kernel_rfl
theorem laidOut : laidOutB Tryz.prog = true := by kernel_rfl

theorem g_pow10Type : (Tryz.prog.globals[2]?).map (·.type) = some 354 := by kernel_rfl
theorem c354 : Tryz.prog.cellsOf 354 = 20 := by kernel_rfl
theorem c276 : Tryz.prog.cellsOf 276 = 1 := by kernel_rfl
theorem c433 : Tryz.prog.cellsOf 433 = 1 := by kernel_rfl
theorem g_syntax : Tryz.prog.globalNamed "strconv.ErrSyntax" = some 3 := by kernel_rfl
theorem g_syntaxType : (Tryz.prog.globals[3]?).map (·.type) = some 121 := by kernel_rfl
theorem g_range : Tryz.prog.globalNamed "strconv.ErrRange" = some 4 := by kernel_rfl
theorem g_rangeType : (Tryz.prog.globals[4]?).map (·.type) = some 121 := by kernel_rfl
theorem star : "*" ++ "errors.errorString" = "*errors.errorString" := by decide
theorem row431 (u : TypeId) (h : Tryz.prog.typeName? 3 u = some "*errors.errorString") : u = 431 :=
  typeName_ptr_named (nm := "errors.errorString") (by rw [star]; kernel_rfl) (by kernel_rfl) (by decide) u (by rw [star]; exact h)

/-! a world that fits -/
theorem laid_met (os : Os) : laidMet Tryz.prog Rows.scopeKeptUptoRow.laid ((World.laidAll Tryz.prog os Rows.scopeKeptUptoRow.laid).forCall (fun _ _ => 0) ⟨#[], #[.slice none 0 0, .slice none 0 0], []⟩).memory :=
  laidMet_laidAll _ (by kernel_rfl) (by kernel_rfl)
theorem reads (os : Os) {H : Type} (enc : TypeId × Value → H) : ∃ places, DataW.whole enc Tryz.prog ((World.laidAll Tryz.prog os Rows.scopeKeptUptoRow.laid).forCall (fun _ _ => 0) ⟨#[], #[.slice none 0 0, .slice none 0 0], []⟩).memory Tryz.f3.params.toList Rows.scopeKeptSpec.vars false #[Value.slice none 0 0, Value.slice none 0 0].toList 8 = some ([.nil, .nil], [], places) :=
  ⟨[], by kernel_rfl⟩

theorem noInit3 : Tryz.prog.inits.idxOf? 3 = none := by kernel_rfl
theorem fits1 (os : Os) : ((World.laidAll Tryz.prog os Rows.scopeKeptUptoRow.laid).forCall (fun _ _ => 0) ⟨#[], #[.slice none 0 0, .slice none 0 0], []⟩).variablesRefB Tryz.prog = true := by kernel_rfl
theorem fits2 (os : Os) : (((World.laidAll Tryz.prog os Rows.scopeKeptUptoRow.laid).forCall (fun _ _ => 0) ⟨#[], #[.slice none 0 0, .slice none 0 0], []⟩).heap.toList.drop Tryz.prog.globals.size).take ((begin Tryz.prog (fun _ _ => 0) default).world.heap.size - Tryz.prog.globals.size) =
      (begin Tryz.prog (fun _ _ => 0) default).world.heap.toList.drop Tryz.prog.globals.size := by kernel_rfl
theorem fits3 (os : Os) : Input.okWideB Tryz.prog ((World.laidAll Tryz.prog os Rows.scopeKeptUptoRow.laid).forCall (fun _ _ => 0) ⟨#[], #[.slice none 0 0, .slice none 0 0], []⟩) 3 ⟨#[], #[.slice none 0 0, .slice none 0 0], []⟩ = true := by kernel_rfl
theorem named3 : Tryz.prog.funcNamed "proteus/proteuslaw16.ScopeKept" = some 3 := by kernel_rfl
theorem inst3 : Tryz.f3.isInstance Tryz.prog Rows.scopeKeptUptoRow.origin Rows.scopeKeptUptoRow.targs := of_decide_eq_true (by kernel_rfl)
theorem wrap3 : Tryz.f3.isWrapper Tryz.prog Rows.scopeKeptUptoRow.wrapper Rows.scopeKeptUptoRow.mainSum := by unfold Func.isWrapper; first | (rw [if_pos (by decide +kernel)]; kernel_rfl) | (rw [if_neg (by decide +kernel)]; exact ⟨rfl, rfl⟩)
end Go.Proofs.YtlpnnoojgbhfaaaGreatDoor
