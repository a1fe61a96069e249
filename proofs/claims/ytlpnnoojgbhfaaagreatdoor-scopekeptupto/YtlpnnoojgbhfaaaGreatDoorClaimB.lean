/- NO FUNCTION OF THE PROGRAM STARTS A GOROUTINE. -/
import Derived.Test.YtlpnnoojgbhfaaaGreatDoorCards
import Derived.SevenTiedAt
import Derived.KernelRfl
set_option linter.all false
namespace Go.Proofs.YtlpnnoojgbhfaaaGreatDoor
open Go
theorem fsize : Tryz.prog.funcs.size = 554 := by kernel_rfl
theorem still0 : ((Tryz.prog.funcs.toList.drop (40 * 0)).take 40).all (fun f => !f.goes) = true := by kernel_rfl
theorem still1 : ((Tryz.prog.funcs.toList.drop (40 * 1)).take 40).all (fun f => !f.goes) = true := by kernel_rfl
theorem still2 : ((Tryz.prog.funcs.toList.drop (40 * 2)).take 40).all (fun f => !f.goes) = true := by kernel_rfl
theorem still3 : ((Tryz.prog.funcs.toList.drop (40 * 3)).take 40).all (fun f => !f.goes) = true := by kernel_rfl
theorem still4 : ((Tryz.prog.funcs.toList.drop (40 * 4)).take 40).all (fun f => !f.goes) = true := by kernel_rfl
theorem still5 : ((Tryz.prog.funcs.toList.drop (40 * 5)).take 40).all (fun f => !f.goes) = true := by kernel_rfl
theorem still6 : ((Tryz.prog.funcs.toList.drop (40 * 6)).take 40).all (fun f => !f.goes) = true := by kernel_rfl
theorem still7 : ((Tryz.prog.funcs.toList.drop (40 * 7)).take 40).all (fun f => !f.goes) = true := by kernel_rfl
theorem still8 : ((Tryz.prog.funcs.toList.drop (40 * 8)).take 40).all (fun f => !f.goes) = true := by kernel_rfl
theorem still9 : ((Tryz.prog.funcs.toList.drop (40 * 9)).take 40).all (fun f => !f.goes) = true := by kernel_rfl
theorem still10 : ((Tryz.prog.funcs.toList.drop (40 * 10)).take 40).all (fun f => !f.goes) = true := by kernel_rfl
theorem still11 : ((Tryz.prog.funcs.toList.drop (40 * 11)).take 40).all (fun f => !f.goes) = true := by kernel_rfl
theorem still12 : ((Tryz.prog.funcs.toList.drop (40 * 12)).take 40).all (fun f => !f.goes) = true := by kernel_rfl
theorem still13 : ((Tryz.prog.funcs.toList.drop (40 * 13)).take 40).all (fun f => !f.goes) = true := by kernel_rfl
theorem stillAt {P : Program} {a : Nat} (h : ((P.funcs.toList.drop a).take 40).all (fun f => !f.goes) = true) {i : Nat} (h1 : a ≤ i) (h2 : i < a + 40) (hi : i < P.funcs.size) : P.funcs[i].goes = false := by
  have hm : P.funcs[i] ∈ (P.funcs.toList.drop a).take 40 := by
    refine List.mem_of_getElem? (i := i - a) ?_
    rw [List.getElem?_take_of_lt (by omega), List.getElem?_drop, show a + (i - a) = i by omega]
    simp [hi]
  have := List.all_eq_true.1 h _ hm
  simpa using this
theorem noGo_of {P : Program} (hs : P.funcs.size ≤ 560) (h : ∀ j, j < 14 → ((P.funcs.toList.drop (40 * j)).take 40).all (fun f => !f.goes) = true) : P.funcs.any Func.goes = false := by
  cases hx : P.funcs.any Func.goes with
  | false => rfl
  | true =>
    obtain ⟨i, hi, hg⟩ := Array.any_eq_true.1 hx
    have := stillAt (h (i / 40) (by omega)) (by omega) (by omega) hi
    rw [this] at hg
    cases hg
theorem stills : ∀ j, j < 14 → ((Tryz.prog.funcs.toList.drop (40 * j)).take 40).all (fun f => !f.goes) = true
  | 0, _ => still0
  | 1, _ => still1
  | 2, _ => still2
  | 3, _ => still3
  | 4, _ => still4
  | 5, _ => still5
  | 6, _ => still6
  | 7, _ => still7
  | 8, _ => still8
  | 9, _ => still9
  | 10, _ => still10
  | 11, _ => still11
  | 12, _ => still12
  | 13, _ => still13
  | _ + 14, h => absurd h (by omega)
theorem noGo : Tryz.prog.funcs.any Func.goes = false := noGo_of (Nat.le_trans (Nat.le_of_eq fsize) (by decide)) stills
theorem named : Tryz.prog.funcNamed "proteus/proteuslaw16.ScopeKept" = some 3 := by kernel_rfl
theorem noGoes {P : Program} {f : FuncId} (h : P.funcs.any Func.goes = false) : P.goes f = false := by
  unfold Program.goes
  rw [h, Bool.and_false, Bool.or_false]
  have key : ∀ g : Nat, (P.funcs[g]?).any Func.goes = false := fun g => by
    cases hg : P.funcs[g]? with
    | none => rfl
    | some fn =>
      obtain ⟨hl, he⟩ := Array.getElem?_eq_some_iff.1 hg
      cases hx : fn.goes with
      | false => simpa using hx
      | true =>
        have : P.funcs.any Func.goes = true := Array.any_eq_true.2 ⟨g, hl, by rw [he]; exact hx⟩
        rw [h] at this; cases this
  simp [key]
theorem goesBy_of {c : OpenClaim} {P : Program} {f : FuncId} (hs : c.start = .entering) (hf : P.funcNamed c.func = some f) (hg : P.goes f = false) : c.goesBy P = false := by
  unfold OpenClaim.goesBy Program.goesAt Program.goesFrom
  rw [hs, hf]
  simp [hg]
theorem goes3 : false = Rows.scopeKeptUptoRow.goesBy Tryz.prog := (goesBy_of (c := Rows.scopeKeptUptoRow) rfl named (noGoes noGo)).symm
end Go.Proofs.YtlpnnoojgbhfaaaGreatDoor
