/-
  DERIVED. GIVEN WITH THE SEED: THE CARDS: each row of YtkehoneadedmhaaDoorRows.lean that lists a variable, with what it lists TIED to the program's text (the seventh form; the later family's looks); each row that meets fmt, with fmt's text TOLD by the authors' own Lean function (tested against real Go, not proved from fmt's source: count such statements apart). THE CARD IS WHAT COUNTS. Prove the row's statement (the work); the ties are given (YtkehoneadedmhaaDoorTie.lean); close each card by the builder's one call (the guide's Derived/Test/ToyasCard.lean, 'card_holds'). Laid BY PROGRAM, IN A SANDBOX (cutbox-door.mjs). By AI agents, Wed Nov 11 2026. No macro, syntax, notation, axiom, sorry.
-/
import Derived.Test.YtkehoneadedmhaaDoorRows
import GoSem.ClaimSeven
namespace Go.Proofs.YtkehoneadedmhaaDoor
namespace Rows

/-- THE TIED CARD OF 'caravellaw09.VaultSeals'. -/
def vaultSealsCard : Claim7 := { stood := { row := vaultSealsRow, standIns := [], harness := (true, "a67e6b415506b59bc596319a4a1d872e7dbe7d2b34939f14f6f5507adfa9db76"), looks := false }, kinds := [], alts := [], laidByText := true, laidKinds := [.data, .pinned], laidTests := true, laidLooks := .later }
def VaultSealsCardSaid : Prop := Claim7.holds Tryd.pinned (.plain (OpenSpec.ofChange vaultSealsSpec)) vaultSealsCard

/-- THE TIED CARD OF 'caravellaw09.VaultPlays'. -/
def vaultPlaysCard : Claim7 := { stood := { row := vaultPlaysRow, standIns := [], harness := (true, "a67e6b415506b59bc596319a4a1d872e7dbe7d2b34939f14f6f5507adfa9db76"), looks := false }, kinds := [], alts := [], laidByText := true, laidKinds := [.data, .pinned], laidTests := true, laidLooks := .later }
def VaultPlaysCardSaid : Prop := Claim7.holds Tryd.pinned (.plain (OpenSpec.ofChange vaultPlaysSpec)) vaultPlaysCard

/-- THE SECOND FORM's CARD OF 'caravellaw09.VaultSeals'. -/
def vaultSealsUptoCard : Claim7 := { stood := { row := vaultSealsUptoRow, standIns := [], harness := (true, "a67e6b415506b59bc596319a4a1d872e7dbe7d2b34939f14f6f5507adfa9db76"), looks := false }, kinds := [], alts := [], laidByText := true, laidKinds := [.data, .pinned], laidTests := true, laidLooks := .later }
def VaultSealsUptoCardSaid : Prop := Claim7.holds Tryd.pinned (.plain (OpenSpec.upto vaultSealsSpec)) vaultSealsUptoCard

/-- THE SECOND FORM's CARD OF 'caravellaw09.VaultPlays'. -/
def vaultPlaysUptoCard : Claim7 := { stood := { row := vaultPlaysUptoRow, standIns := [], harness := (true, "a67e6b415506b59bc596319a4a1d872e7dbe7d2b34939f14f6f5507adfa9db76"), looks := false }, kinds := [], alts := [], laidByText := true, laidKinds := [.data, .pinned], laidTests := true, laidLooks := .later }
def VaultPlaysUptoCardSaid : Prop := Claim7.holds Tryd.pinned (.plain (OpenSpec.upto vaultPlaysSpec)) vaultPlaysUptoCard
end Rows
end Go.Proofs.YtkehoneadedmhaaDoor
