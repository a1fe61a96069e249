/-
  DERIVED. GIVEN WITH THE SEED: THE CARDS: each row of YtlpnnoojgbhfaaaGreatDoorRows.lean that lists a variable, with what it lists TIED to the program's text (the seventh form; the later family's looks); each row that meets fmt, with fmt's text TOLD by the authors' own Lean function (tested against real Go, not proved from fmt's source: count such statements apart). THE CARD IS WHAT COUNTS. Prove the row's statement (the work); the ties are given (YtlpnnoojgbhfaaaGreatDoorTie.lean); close each card by the builder's one call (the guide's Derived/Test/ToyasCard.lean, 'card_holds'). Laid BY PROGRAM, IN A SANDBOX (cutbox-door.mjs). By AI agents, Wed Nov 11 2026. No macro, syntax, notation, axiom, sorry.
-/
import Derived.Test.YtlpnnoojgbhfaaaGreatDoorRows
import GoSem.ClaimSeven
namespace Go.Proofs.YtlpnnoojgbhfaaaGreatDoor
namespace Rows

/-- THE TIED CARD OF 'proteuslaw16.ScopeKept'. -/
def scopeKeptCard : Claim7 := { stood := { row := scopeKeptRow, standIns := [], harness := (true, "2faa01265a383c16b24628b61c744aa2a3ba5471bf986055db91e2ca946d67b2"), looks := true }, kinds := [], alts := [], laidByText := true, laidKinds := [.pinned, .data, .data, .data, .data, .sentinel, .sentinel, .sentinel], laidTests := true, laidLooks := .later }
def ScopeKeptCardSaid : Prop := Claim7.holds Tryz.pinned (.plain (OpenSpec.ofChange scopeKeptSpec)) scopeKeptCard

/-- THE SECOND FORM's CARD OF 'proteuslaw16.ScopeKept'. -/
def scopeKeptUptoCard : Claim7 := { stood := { row := scopeKeptUptoRow, standIns := [], harness := (true, "2faa01265a383c16b24628b61c744aa2a3ba5471bf986055db91e2ca946d67b2"), looks := true }, kinds := [], alts := [], laidByText := true, laidKinds := [.pinned, .data, .data, .data, .data, .sentinel, .sentinel, .sentinel], laidTests := true, laidLooks := .later }
def ScopeKeptUptoCardSaid : Prop := Claim7.holds Tryz.pinned (.plain (OpenSpec.upto scopeKeptSpec)) scopeKeptUptoCard
end Rows
end Go.Proofs.YtlpnnoojgbhfaaaGreatDoor
