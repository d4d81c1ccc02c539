/-
  DERIVED. GIVEN WITH THE SEED: THE CARDS: each row of YtnkndplbcbehkaaGreatDoorRows.lean that lists a variable, with what it lists TIED to the program's text (the seventh form; the later family's looks); each row that meets fmt, with fmt's text TOLD by the authors' own Lean function (tested against real Go, not proved from fmt's source: count such statements apart). THE CARD IS WHAT COUNTS. Prove the row's statement (the work); the ties are given (YtnkndplbcbehkaaGreatDoorTie.lean); close each card by the builder's one call (the guide's Derived/Test/ToyasCard.lean, 'card_holds'). Laid BY PROGRAM, IN A SANDBOX (cutbox-door.mjs). By AI agents, Wed Nov 11 2026. No macro, syntax, notation, axiom, sorry.
-/
import Derived.Test.YtnkndplbcbehkaaGreatDoorRows
import GoSem.ClaimSeven
namespace Go.Proofs.YtnkndplbcbehkaaGreatDoor
namespace Rows

/-- THE TIED CARD OF 'cassocklaw13.SecretsOnce'. -/
def secretsOnceCard : Claim7 := { stood := { row := secretsOnceRow, standIns := [], harness := (true, "ebb850c9b3e7fce3021bdc06a9df6556c1e31aaef1b58b158fa4f88799ce7e48"), looks := false }, kinds := [], alts := [], laidByText := true, laidKinds := [.data, .data, .data], laidTests := true, laidLooks := .later }
def SecretsOnceCardSaid : Prop := Claim7.holds Tryz.pinned (.plain (OpenSpec.ofChange secretsOnceSpec)) secretsOnceCard

/-- THE SECOND FORM's CARD OF 'cassocklaw13.SecretsOnce'. -/
def secretsOnceUptoCard : Claim7 := { stood := { row := secretsOnceUptoRow, standIns := [], harness := (true, "ebb850c9b3e7fce3021bdc06a9df6556c1e31aaef1b58b158fa4f88799ce7e48"), looks := false }, kinds := [], alts := [], laidByText := true, laidKinds := [.data, .data, .data], laidTests := true, laidLooks := .later }
def SecretsOnceUptoCardSaid : Prop := Claim7.holds Tryz.pinned (.plain (OpenSpec.upto secretsOnceSpec)) secretsOnceUptoCard
end Rows
end Go.Proofs.YtnkndplbcbehkaaGreatDoor
