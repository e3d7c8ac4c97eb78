/-
  DERIVED. GIVEN WITH THE SEED: THE CARDS: each row of YtffckpkikdlbpaaGreatDoorRows.lean that lists a variable, with what it lists TIED to the program's text (the seventh form; the later family's looks); each row that meets fmt, with fmt's text TOLD by the authors' own Lean function (tested against real Go, not proved from fmt's source: count such statements apart). THE CARD IS WHAT COUNTS. Prove the row's statement (the work); the ties are given (YtffckpkikdlbpaaGreatDoorTie.lean); close each card by the builder's one call (the guide's Derived/Test/ToyasCard.lean, 'card_holds'). Laid BY PROGRAM, IN A SANDBOX (cutbox-door.mjs). By AI agents, Wed Nov 11 2026. No macro, syntax, notation, axiom, sorry.
-/
import Derived.Test.YtffckpkikdlbpaaGreatDoorRows
import GoSem.ClaimSeven
namespace Go.Proofs.YtffckpkikdlbpaaGreatDoor
namespace Rows

/-- THE TIED CARD OF 'waywardenlaw12.RibAll'. -/
def ribAllCard : Claim7 := { stood := { row := ribAllRow, standIns := [], harness := (true, "586ab27a9cc3d6bee9cbc77fec668b1b6cd7ac748da3f1b3c451dc07011a5134"), looks := true }, kinds := [], alts := [], laidByText := true, laidKinds := [.data, .data], laidTests := true, laidLooks := .later }
def RibAllCardSaid : Prop := Claim7.holds Tryz.pinned (.plain (OpenSpec.ofChange ribAllSpec)) ribAllCard

/-- THE TIED CARD OF 'waywardenlaw12.RibHolds'. -/
def ribHoldsCard : Claim7 := { stood := { row := ribHoldsRow, standIns := [], harness := (true, "586ab27a9cc3d6bee9cbc77fec668b1b6cd7ac748da3f1b3c451dc07011a5134"), looks := true }, kinds := [], alts := [], laidByText := true, laidKinds := [.data, .data], laidTests := true, laidLooks := .later }
def RibHoldsCardSaid : Prop := Claim7.holds Tryz.pinned (.plain (OpenSpec.ofChange ribHoldsSpec)) ribHoldsCard

/-- THE TIED CARD OF 'waywardenlaw12.RibPlays'. -/
def ribPlaysCard : Claim7 := { stood := { row := ribPlaysRow, standIns := [], harness := (true, "586ab27a9cc3d6bee9cbc77fec668b1b6cd7ac748da3f1b3c451dc07011a5134"), looks := true }, kinds := [], alts := [], laidByText := true, laidKinds := [.data, .data], laidTests := true, laidLooks := .later }
def RibPlaysCardSaid : Prop := Claim7.holds Tryz.pinned (.plain (OpenSpec.ofChange ribPlaysSpec)) ribPlaysCard

/-- THE TIED CARD OF 'waywardenlaw12.RibApart'. -/
def ribApartCard : Claim7 := { stood := { row := ribApartRow, standIns := [], harness := (true, "586ab27a9cc3d6bee9cbc77fec668b1b6cd7ac748da3f1b3c451dc07011a5134"), looks := true }, kinds := [], alts := [], laidByText := true, laidKinds := [.data, .data], laidTests := true, laidLooks := .later }
def RibApartCardSaid : Prop := Claim7.holds Tryz.pinned (.plain (OpenSpec.ofChange ribApartSpec)) ribApartCard

/-- THE TIED CARD OF 'waywardenlaw12.RibNone'. -/
def ribNoneCard : Claim7 := { stood := { row := ribNoneRow, standIns := [], harness := (true, "586ab27a9cc3d6bee9cbc77fec668b1b6cd7ac748da3f1b3c451dc07011a5134"), looks := true }, kinds := [], alts := [], laidByText := true, laidKinds := [.data, .data], laidTests := true, laidLooks := .later }
def RibNoneCardSaid : Prop := Claim7.holds Tryz.pinned (.plain (OpenSpec.ofChange ribNoneSpec)) ribNoneCard

/-- THE TIED CARD OF 'waywardenlaw12.RibCopies'. -/
def ribCopiesCard : Claim7 := { stood := { row := ribCopiesRow, standIns := [], harness := (true, "586ab27a9cc3d6bee9cbc77fec668b1b6cd7ac748da3f1b3c451dc07011a5134"), looks := true }, kinds := [], alts := [], laidByText := true, laidKinds := [.data, .data], laidTests := true, laidLooks := .later }
def RibCopiesCardSaid : Prop := Claim7.holds Tryz.pinned (.plain (OpenSpec.ofChange ribCopiesSpec)) ribCopiesCard

/-- THE SECOND FORM's CARD OF 'waywardenlaw12.RibAll'. -/
def ribAllUptoCard : Claim7 := { stood := { row := ribAllUptoRow, standIns := [], harness := (true, "586ab27a9cc3d6bee9cbc77fec668b1b6cd7ac748da3f1b3c451dc07011a5134"), looks := true }, kinds := [], alts := [], laidByText := true, laidKinds := [.data, .data], laidTests := true, laidLooks := .later }
def RibAllUptoCardSaid : Prop := Claim7.holds Tryz.pinned (.plain (OpenSpec.upto ribAllSpec)) ribAllUptoCard

/-- THE SECOND FORM's CARD OF 'waywardenlaw12.RibHolds'. -/
def ribHoldsUptoCard : Claim7 := { stood := { row := ribHoldsUptoRow, standIns := [], harness := (true, "586ab27a9cc3d6bee9cbc77fec668b1b6cd7ac748da3f1b3c451dc07011a5134"), looks := true }, kinds := [], alts := [], laidByText := true, laidKinds := [.data, .data], laidTests := true, laidLooks := .later }
def RibHoldsUptoCardSaid : Prop := Claim7.holds Tryz.pinned (.plain (OpenSpec.upto ribHoldsSpec)) ribHoldsUptoCard

/-- THE SECOND FORM's CARD OF 'waywardenlaw12.RibPlays'. -/
def ribPlaysUptoCard : Claim7 := { stood := { row := ribPlaysUptoRow, standIns := [], harness := (true, "586ab27a9cc3d6bee9cbc77fec668b1b6cd7ac748da3f1b3c451dc07011a5134"), looks := true }, kinds := [], alts := [], laidByText := true, laidKinds := [.data, .data], laidTests := true, laidLooks := .later }
def RibPlaysUptoCardSaid : Prop := Claim7.holds Tryz.pinned (.plain (OpenSpec.upto ribPlaysSpec)) ribPlaysUptoCard

/-- THE SECOND FORM's CARD OF 'waywardenlaw12.RibApart'. -/
def ribApartUptoCard : Claim7 := { stood := { row := ribApartUptoRow, standIns := [], harness := (true, "586ab27a9cc3d6bee9cbc77fec668b1b6cd7ac748da3f1b3c451dc07011a5134"), looks := true }, kinds := [], alts := [], laidByText := true, laidKinds := [.data, .data], laidTests := true, laidLooks := .later }
def RibApartUptoCardSaid : Prop := Claim7.holds Tryz.pinned (.plain (OpenSpec.upto ribApartSpec)) ribApartUptoCard

/-- THE SECOND FORM's CARD OF 'waywardenlaw12.RibNone'. -/
def ribNoneUptoCard : Claim7 := { stood := { row := ribNoneUptoRow, standIns := [], harness := (true, "586ab27a9cc3d6bee9cbc77fec668b1b6cd7ac748da3f1b3c451dc07011a5134"), looks := true }, kinds := [], alts := [], laidByText := true, laidKinds := [.data, .data], laidTests := true, laidLooks := .later }
def RibNoneUptoCardSaid : Prop := Claim7.holds Tryz.pinned (.plain (OpenSpec.upto ribNoneSpec)) ribNoneUptoCard

/-- THE SECOND FORM's CARD OF 'waywardenlaw12.RibCopies'. -/
def ribCopiesUptoCard : Claim7 := { stood := { row := ribCopiesUptoRow, standIns := [], harness := (true, "586ab27a9cc3d6bee9cbc77fec668b1b6cd7ac748da3f1b3c451dc07011a5134"), looks := true }, kinds := [], alts := [], laidByText := true, laidKinds := [.data, .data], laidTests := true, laidLooks := .later }
def RibCopiesUptoCardSaid : Prop := Claim7.holds Tryz.pinned (.plain (OpenSpec.upto ribCopiesSpec)) ribCopiesUptoCard
end Rows
end Go.Proofs.YtffckpkikdlbpaaGreatDoor
