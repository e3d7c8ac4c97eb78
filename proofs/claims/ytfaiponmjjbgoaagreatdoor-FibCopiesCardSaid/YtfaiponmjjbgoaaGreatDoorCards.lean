/-
  DERIVED. GIVEN WITH THE SEED: THE CARDS: each row of YtfaiponmjjbgoaaGreatDoorRows.lean that lists a variable, with what it lists TIED to the program's text (the seventh form; the later family's looks); each row that meets fmt, with fmt's text TOLD by the authors' own Lean function (tested against real Go, not proved from fmt's source: count such statements apart). THE CARD IS WHAT COUNTS. Prove the row's statement (the work); the ties are given (YtfaiponmjjbgoaaGreatDoorTie.lean); close each card by the builder's one call (the guide's Derived/Test/ToyasCard.lean, 'card_holds'). Laid BY PROGRAM, IN A SANDBOX (cutbox-door.mjs). By AI agents, Wed Nov 11 2026. No macro, syntax, notation, axiom, sorry.
-/
import Derived.Test.YtfaiponmjjbgoaaGreatDoorRows
import GoSem.ClaimSeven
namespace Go.Proofs.YtfaiponmjjbgoaaGreatDoor
namespace Rows

/-- THE TIED CARD OF 'waywardenlaw13.FibAll'. -/
def fibAllCard : Claim7 := { stood := { row := fibAllRow, standIns := [], harness := (true, "89544b4481af1fe2b1dcb90f9884f3ae7a5bb5c016065a8cb0c8ddfef58b9e85"), looks := true }, kinds := [], alts := [], laidByText := true, laidKinds := [.data], laidTests := true, laidLooks := .later }
def FibAllCardSaid : Prop := Claim7.holds Tryz.pinned (.plain (OpenSpec.ofChange fibAllSpec)) fibAllCard

/-- THE TIED CARD OF 'waywardenlaw13.FibComes'. -/
def fibComesCard : Claim7 := { stood := { row := fibComesRow, standIns := [], harness := (true, "89544b4481af1fe2b1dcb90f9884f3ae7a5bb5c016065a8cb0c8ddfef58b9e85"), looks := true }, kinds := [], alts := [], laidByText := true, laidKinds := [.data], laidTests := true, laidLooks := .later }
def FibComesCardSaid : Prop := Claim7.holds Tryz.pinned (.plain (OpenSpec.ofChange fibComesSpec)) fibComesCard

/-- THE TIED CARD OF 'waywardenlaw13.FibCopies'. -/
def fibCopiesCard : Claim7 := { stood := { row := fibCopiesRow, standIns := [], harness := (true, "89544b4481af1fe2b1dcb90f9884f3ae7a5bb5c016065a8cb0c8ddfef58b9e85"), looks := true }, kinds := [], alts := [], laidByText := true, laidKinds := [.data], laidTests := true, laidLooks := .later }
def FibCopiesCardSaid : Prop := Claim7.holds Tryz.pinned (.plain (OpenSpec.ofChange fibCopiesSpec)) fibCopiesCard

/-- THE SECOND FORM's CARD OF 'waywardenlaw13.FibAll'. -/
def fibAllUptoCard : Claim7 := { stood := { row := fibAllUptoRow, standIns := [], harness := (true, "89544b4481af1fe2b1dcb90f9884f3ae7a5bb5c016065a8cb0c8ddfef58b9e85"), looks := true }, kinds := [], alts := [], laidByText := true, laidKinds := [.data], laidTests := true, laidLooks := .later }
def FibAllUptoCardSaid : Prop := Claim7.holds Tryz.pinned (.plain (OpenSpec.upto fibAllSpec)) fibAllUptoCard

/-- THE SECOND FORM's CARD OF 'waywardenlaw13.FibComes'. -/
def fibComesUptoCard : Claim7 := { stood := { row := fibComesUptoRow, standIns := [], harness := (true, "89544b4481af1fe2b1dcb90f9884f3ae7a5bb5c016065a8cb0c8ddfef58b9e85"), looks := true }, kinds := [], alts := [], laidByText := true, laidKinds := [.data], laidTests := true, laidLooks := .later }
def FibComesUptoCardSaid : Prop := Claim7.holds Tryz.pinned (.plain (OpenSpec.upto fibComesSpec)) fibComesUptoCard

/-- THE SECOND FORM's CARD OF 'waywardenlaw13.FibCopies'. -/
def fibCopiesUptoCard : Claim7 := { stood := { row := fibCopiesUptoRow, standIns := [], harness := (true, "89544b4481af1fe2b1dcb90f9884f3ae7a5bb5c016065a8cb0c8ddfef58b9e85"), looks := true }, kinds := [], alts := [], laidByText := true, laidKinds := [.data], laidTests := true, laidLooks := .later }
def FibCopiesUptoCardSaid : Prop := Claim7.holds Tryz.pinned (.plain (OpenSpec.upto fibCopiesSpec)) fibCopiesUptoCard
end Rows
end Go.Proofs.YtfaiponmjjbgoaaGreatDoor
