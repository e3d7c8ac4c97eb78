/-
  DERIVED. GIVEN WITH THE SEED: THE CARDS: each row of YtfaiponmjjbgoaaDoorRows.lean that lists a variable, with what it lists TIED to the program's text (the seventh form; the later family's looks); each row that meets fmt, with fmt's text TOLD by the authors' own Lean function (tested against real Go, not proved from fmt's source: count such statements apart). THE CARD IS WHAT COUNTS. Prove the row's statement (the work); the ties are given (YtfaiponmjjbgoaaDoorTie.lean); close each card by the builder's one call (the guide's Derived/Test/ToyasCard.lean, 'card_holds'). Laid BY PROGRAM, IN A SANDBOX (cutbox-door.mjs). By AI agents, Wed Nov 11 2026. No macro, syntax, notation, axiom, sorry.
-/
import Derived.Test.YtfaiponmjjbgoaaDoorRows
import GoSem.ClaimSeven
namespace Go.Proofs.YtfaiponmjjbgoaaDoor
namespace Rows

/-- THE TIED CARD OF 'waywardenlaw13.FibBounds'. -/
def fibBoundsCard : Claim7 := { stood := { row := fibBoundsRow, standIns := [], harness := (true, "e25179a0860a9ae96ad4028fd483feec1d275d47ca5ad5c3ab305e426dc6447b"), looks := true }, kinds := [], alts := [], laidByText := true, laidKinds := [.data], laidTests := true, laidLooks := .later }
def FibBoundsCardSaid : Prop := Claim7.holds Tryd.pinned (.plain (OpenSpec.ofChange fibBoundsSpec)) fibBoundsCard

/-- THE SECOND FORM's CARD OF 'waywardenlaw13.FibBounds'. -/
def fibBoundsUptoCard : Claim7 := { stood := { row := fibBoundsUptoRow, standIns := [], harness := (true, "e25179a0860a9ae96ad4028fd483feec1d275d47ca5ad5c3ab305e426dc6447b"), looks := true }, kinds := [], alts := [], laidByText := true, laidKinds := [.data], laidTests := true, laidLooks := .later }
def FibBoundsUptoCardSaid : Prop := Claim7.holds Tryd.pinned (.plain (OpenSpec.upto fibBoundsSpec)) fibBoundsUptoCard
end Rows
end Go.Proofs.YtfaiponmjjbgoaaDoor
