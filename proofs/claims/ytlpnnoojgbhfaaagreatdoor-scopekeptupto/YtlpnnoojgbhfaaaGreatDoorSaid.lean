/- ScopeKept, its row. -/
import Derived.Test.YtlpnnoojgbhfaaaGreatDoorRow
import Derived.Test.YtlpnnoojgbhfaaaGreatDoorFacts
import Derived.Test.YtlpnnoojgbhfaaaGreatDoorFactsB
set_option linter.all false
namespace Go.Proofs.YtlpnnoojgbhfaaaGreatDoor
open Go
set_option maxRecDepth 100000 in
theorem facts : joinedFacts Tryz.prog 3 Tryz.f3 factS Rows.scopeKeptUptoRow = true := by
  unfold joinedFacts
  simp only [Bool.and_eq_true, and_assoc]
  exact ⟨fact0, fact1, fact2, fact3, fact4, fact5, fact6, fact7, fact8, fact9, fact10, fact11, fact12, fact13, fact14, fact15, fact16, fact17, fact18, fact19, fact20, fact21, fact22, fact23, fact24, fact25, fact26, fact27, fact28, fact29, fact30, fact31⟩
theorem saidUpto : Rows.ScopeKeptUptoSaid :=
  OpenClaim.holds_of_cond 3 Tryz.f3 rfl rfl rfl rfl rfl rfl rfl ⟨rfl, rfl, rfl, rfl, rfl⟩ rfl rfl rfl rfl rfl named3 Tryz.func3 facts inst3 wrap3
    (fun os started H enc _ F => by rw [OpenClaim.pre_eq_preRow]; exact liftedUpto os started H enc F)
#print axioms saidUpto
end Go.Proofs.YtlpnnoojgbhfaaaGreatDoor
