/-
  DERIVED. GIVEN WITH THE SEED: THE CARDS: each row of YtnkndplbcbehkaaDoorRows.lean that lists a variable, with what it lists TIED to the program's text (the seventh form; the later family's looks); each row that meets fmt, with fmt's text TOLD by the authors' own Lean function (tested against real Go, not proved from fmt's source: count such statements apart). THE CARD IS WHAT COUNTS. Prove the row's statement (the work); the ties are given (YtnkndplbcbehkaaDoorTie.lean); close each card by the builder's one call (the guide's Derived/Test/ToyasCard.lean, 'card_holds'). Laid BY PROGRAM, IN A SANDBOX (cutbox-door.mjs). By AI agents, Wed Nov 11 2026. No macro, syntax, notation, axiom, sorry.
-/
import Derived.Test.YtnkndplbcbehkaaDoorRows
import GoSem.ClaimSeven
namespace Go.Proofs.YtnkndplbcbehkaaDoor
namespace Rows

/-- THE TIED CARD OF 'cassocklaw13.SecretsOrder'. -/
def secretsOrderCard : Claim7 := { stood := { row := secretsOrderRow, standIns := [], harness := (true, "ff59cb86cf61899af3559cbaaa8fea75c438a6d64444fa0014dec540b3b8ed0a"), looks := false }, kinds := [], alts := [], laidByText := true, laidKinds := [.data, .data, .data], laidTests := true, laidLooks := .later }
def SecretsOrderCardSaid : Prop := Claim7.holds Tryd.pinned (.plain (OpenSpec.ofChange secretsOrderSpec)) secretsOrderCard

/-- THE TIED CARD OF 'cassocklaw13.SecretsApart'. -/
def secretsApartCard : Claim7 := { stood := { row := secretsApartRow, standIns := [], harness := (true, "ff59cb86cf61899af3559cbaaa8fea75c438a6d64444fa0014dec540b3b8ed0a"), looks := false }, kinds := [], alts := [], laidByText := true, laidKinds := [.data, .data, .data], laidTests := true, laidLooks := .later }
def SecretsApartCardSaid : Prop := Claim7.holds Tryd.pinned (.plain (OpenSpec.ofChange secretsApartSpec)) secretsApartCard

/-- THE TIED CARD OF 'cassocklaw13.SecretsNext'. -/
def secretsNextCard : Claim7 := { stood := { row := secretsNextRow, standIns := [], harness := (true, "ff59cb86cf61899af3559cbaaa8fea75c438a6d64444fa0014dec540b3b8ed0a"), looks := false }, kinds := [], alts := [], laidByText := true, laidKinds := [.data, .data, .data], laidTests := true, laidLooks := .later }
def SecretsNextCardSaid : Prop := Claim7.holds Tryd.pinned (.plain (OpenSpec.ofChange secretsNextSpec)) secretsNextCard

/-- THE SECOND FORM's CARD OF 'cassocklaw13.SecretsOrder'. -/
def secretsOrderUptoCard : Claim7 := { stood := { row := secretsOrderUptoRow, standIns := [], harness := (true, "ff59cb86cf61899af3559cbaaa8fea75c438a6d64444fa0014dec540b3b8ed0a"), looks := false }, kinds := [], alts := [], laidByText := true, laidKinds := [.data, .data, .data], laidTests := true, laidLooks := .later }
def SecretsOrderUptoCardSaid : Prop := Claim7.holds Tryd.pinned (.plain (OpenSpec.upto secretsOrderSpec)) secretsOrderUptoCard

/-- THE SECOND FORM's CARD OF 'cassocklaw13.SecretsApart'. -/
def secretsApartUptoCard : Claim7 := { stood := { row := secretsApartUptoRow, standIns := [], harness := (true, "ff59cb86cf61899af3559cbaaa8fea75c438a6d64444fa0014dec540b3b8ed0a"), looks := false }, kinds := [], alts := [], laidByText := true, laidKinds := [.data, .data, .data], laidTests := true, laidLooks := .later }
def SecretsApartUptoCardSaid : Prop := Claim7.holds Tryd.pinned (.plain (OpenSpec.upto secretsApartSpec)) secretsApartUptoCard

/-- THE SECOND FORM's CARD OF 'cassocklaw13.SecretsNext'. -/
def secretsNextUptoCard : Claim7 := { stood := { row := secretsNextUptoRow, standIns := [], harness := (true, "ff59cb86cf61899af3559cbaaa8fea75c438a6d64444fa0014dec540b3b8ed0a"), looks := false }, kinds := [], alts := [], laidByText := true, laidKinds := [.data, .data, .data], laidTests := true, laidLooks := .later }
def SecretsNextUptoCardSaid : Prop := Claim7.holds Tryd.pinned (.plain (OpenSpec.upto secretsNextSpec)) secretsNextUptoCard
end Rows
end Go.Proofs.YtnkndplbcbehkaaDoor
