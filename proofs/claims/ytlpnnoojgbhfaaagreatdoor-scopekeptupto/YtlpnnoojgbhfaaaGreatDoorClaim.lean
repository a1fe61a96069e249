/- ScopeKept, its card: at every input of bulk at most 1048576 it answers true and leaves the input as it was. Conditions: those of the given row; the listed variables hold what the program's text lays. -/
import Derived.Test.YtlpnnoojgbhfaaaGreatDoorSaid
import Derived.Test.YtlpnnoojgbhfaaaGreatDoorClaimA
import Derived.Test.YtlpnnoojgbhfaaaGreatDoorClaimB
import Derived.Test.YtlpnnoojgbhfaaaGreatDoorTies2
import Derived.SevenTiedAt
set_option linter.all false
namespace Go.Proofs.YtlpnnoojgbhfaaaGreatDoor
open Go
theorem plain (f : FuncId) (fn : Func) (hf : Tryz.pinned.checked.prog.funcNamed "proteus/proteuslaw16.ScopeKept" = some f) (hfn : Tryz.pinned.checked.prog.funcs[f]? = some fn) :
    true = Tryz.pinned.checked.prog.looks [] ∧ ∀ (j : Nat) t, fn.params[j]? = some t → Tryz.pinned.checked.prog.wantsStandIn t = false := by
  obtain rfl : f = 3 := Option.some.inj (named3.symm.trans hf) |>.symm
  obtain rfl : fn = Tryz.f3 := (Option.some.inj (Tryz.func3.symm.trans hfn)).symm
  refine ⟨looks3, fun j t ht => ?_⟩
  rw [Tryz.params3] at ht
  have hm : t = 22 ∨ t = 23 := by simpa using Array.mem_of_getElem? ht
  rcases hm with rfl | rfl
  · exact wants22
  · exact wants23

/-! the tie -/
theorem tieOf : Tryz.prog.laidByTextLater tieL [.data, .data, .data, .data, .sentinel, .sentinel, .sentinel] true :=
  Program.laidByTextLater_by_run 400 8 tie1 tie2 tie3 tie4 tie5 tie6 tie7 tie8 tie9
theorem pinFirst : Tryz.pinned.checked.prog.pinnedFits "unicode/utf8.first" = true := by kernel_rfl
theorem notUnsafe : Tryz.pinned.checked.prog.headLifts.contains "ownunsafe" = false := by kernel_rfl
theorem fitsAll : Tryz.pinned.checked.prog.listedFits Rows.scopeKeptUptoRow.laid = true := by
  unfold Program.listedFits
  rw [notUnsafe]
  kernel_rfl
theorem rowTie : Rows.scopeKeptUptoRow.laidByTextAt .later Tryz.pinned [.pinned, .data, .data, .data, .data, .sentinel, .sentinel, .sentinel] true :=
  OpenClaim.laidByTextAt_pinned rfl rfl tieOf rfl rfl rfl rfl (fun y hy _e => by
    simp only [Rows.scopeKeptUptoRow, List.zip_cons_cons, List.zip_nil_right, List.mem_cons, List.mem_nil_iff, or_false] at hy
    rcases hy with rfl | rfl | rfl | rfl | rfl | rfl | rfl | rfl
    · exact ⟨pinFirst, by kernel_rfl⟩
    · cases _e
    · cases _e
    · cases _e
    · cases _e
    · cases _e
    · cases _e
    · cases _e) fitsAll

theorem cardUpto : Rows.ScopeKeptUptoCardSaid :=
  Claim7.holds_tied_plain_at .later [] _ _ _ _ saidUpto (fun _ h => by cases h) byText3 (fun _ h => by cases h) rowTie rfl ⟨rfl, rfl⟩ main3 rfl plain goes3
#print axioms cardUpto
end Go.Proofs.YtlpnnoojgbhfaaaGreatDoor
