/-
  DERIVED. GIVEN WITH THE SEED: THE CARDS: each row of YtjfnncdafiiffaaGreatDoorRows.lean that lists a variable, with what it lists TIED to the program's text (the seventh form; the later family's looks); each row that meets fmt, with fmt's text TOLD by the authors' own Lean function (tested against real Go, not proved from fmt's source: count such statements apart). THE CARD IS WHAT COUNTS. Prove the row's statement (the work); the ties are given (YtjfnncdafiiffaaGreatDoorTie.lean); close each card by the builder's one call (the guide's Derived/Test/ToyasCard.lean, 'card_holds'). Laid BY PROGRAM, IN A SANDBOX (cutbox-door.mjs). By AI agents, Wed Nov 11 2026. No macro, syntax, notation, axiom, sorry.
-/
import Derived.Test.YtjfnncdafiiffaaGreatDoorRows
import GoSem.ClaimSeven
namespace Go.Proofs.YtjfnncdafiiffaaGreatDoor
namespace Rows

/-- THE TIED CARD OF 'tailracelaw24.ClientNew'. -/
def clientNewCard : Claim7 := { stood := { row := clientNewRow, standIns := [], harness := (true, "27c2b78f2aee1a37beae7b82117587cbb3e837272eb60533ea5d67e6fe1a5e63"), looks := false }, kinds := [], alts := [], laidByText := true, laidKinds := [.data, .pinned], laidTests := true, laidLooks := .later }
def ClientNewCardSaid : Prop := Claim7.holds Tryz.pinned (.plain (OpenSpec.ofChange clientNewSpec)) clientNewCard

/-- THE SECOND FORM's CARD OF 'tailracelaw24.ClientNew'. -/
def clientNewUptoCard : Claim7 := { stood := { row := clientNewUptoRow, standIns := [], harness := (true, "27c2b78f2aee1a37beae7b82117587cbb3e837272eb60533ea5d67e6fe1a5e63"), looks := false }, kinds := [], alts := [], laidByText := true, laidKinds := [.data, .pinned], laidTests := true, laidLooks := .later }
def ClientNewUptoCardSaid : Prop := Claim7.holds Tryz.pinned (.plain (OpenSpec.upto clientNewSpec)) clientNewUptoCard
end Rows
end Go.Proofs.YtjfnncdafiiffaaGreatDoor
