/-
  DERIVED. GIVEN WITH THE SEED: THE CARDS: each row of YtgopnfacklmkaaaGreatDoorRows.lean that lists a variable, with what it lists TIED to the program's text (the seventh form; the later family's looks); each row that meets fmt, with fmt's text TOLD by the authors' own Lean function (tested against real Go, not proved from fmt's source: count such statements apart). THE CARD IS WHAT COUNTS. Prove the row's statement (the work); the ties are given (YtgopnfacklmkaaaGreatDoorTie.lean); close each card by the builder's one call (the guide's Derived/Test/ToyasCard.lean, 'card_holds'). Laid BY PROGRAM, IN A SANDBOX (cutbox-door.mjs). By AI agents, Wed Nov 11 2026. No macro, syntax, notation, axiom, sorry.
-/
import Derived.Test.YtgopnfacklmkaaaGreatDoorRows
import GoSem.ClaimSeven
namespace Go.Proofs.YtgopnfacklmkaaaGreatDoor
namespace Rows

/-- THE TIED CARD OF 'waywardenlaw24.AuditNames'. -/
def auditNamesCard : Claim7 := { stood := { row := auditNamesRow, standIns := [], harness := (true, "c35284451049d566b3a081529b1b659d2ce9466078bb6e9d13e885aa30dfdeb3"), looks := true }, kinds := [], alts := [], laidByText := true, laidKinds := [.data, .data], laidTests := true, laidLooks := .later }
def AuditNamesCardSaid : Prop := Claim7.holds Tryz.pinned (.plain (OpenSpec.ofChange auditNamesSpec)) auditNamesCard

/-- THE TIED CARD OF 'waywardenlaw14.RespondAsked'. -/
def respondAskedCard : Claim7 := { stood := { row := respondAskedRow, standIns := [], harness := (true, "c35284451049d566b3a081529b1b659d2ce9466078bb6e9d13e885aa30dfdeb3"), looks := true }, kinds := [], alts := [], laidByText := true, laidKinds := [.data, .data, .data], laidTests := true, laidLooks := .later }
def RespondAskedCardSaid : Prop := Claim7.holds Tryz.pinned (.plain (OpenSpec.ofChange respondAskedSpec)) respondAskedCard

/-- THE TIED CARD OF 'waywardenlaw14.RespondMany'. -/
def respondManyCard : Claim7 := { stood := { row := respondManyRow, standIns := [], harness := (true, "c35284451049d566b3a081529b1b659d2ce9466078bb6e9d13e885aa30dfdeb3"), looks := true }, kinds := [], alts := [], laidByText := true, laidKinds := [.data, .data, .data], laidTests := true, laidLooks := .later }
def RespondManyCardSaid : Prop := Claim7.holds Tryz.pinned (.plain (OpenSpec.ofChange respondManySpec)) respondManyCard

/-- THE TIED CARD OF 'waywardenlaw13.FibHolds'. -/
def fibHoldsCard : Claim7 := { stood := { row := fibHoldsRow, standIns := [], harness := (true, "c35284451049d566b3a081529b1b659d2ce9466078bb6e9d13e885aa30dfdeb3"), looks := true }, kinds := [], alts := [], laidByText := true, laidKinds := [.data, .data], laidTests := true, laidLooks := .later }
def FibHoldsCardSaid : Prop := Claim7.holds Tryz.pinned (.plain (OpenSpec.ofChange fibHoldsSpec)) fibHoldsCard

/-- THE SECOND FORM's CARD OF 'waywardenlaw24.AuditNames'. -/
def auditNamesUptoCard : Claim7 := { stood := { row := auditNamesUptoRow, standIns := [], harness := (true, "c35284451049d566b3a081529b1b659d2ce9466078bb6e9d13e885aa30dfdeb3"), looks := true }, kinds := [], alts := [], laidByText := true, laidKinds := [.data, .data], laidTests := true, laidLooks := .later }
def AuditNamesUptoCardSaid : Prop := Claim7.holds Tryz.pinned (.plain (OpenSpec.upto auditNamesSpec)) auditNamesUptoCard

/-- THE SECOND FORM's CARD OF 'waywardenlaw14.RespondAsked'. -/
def respondAskedUptoCard : Claim7 := { stood := { row := respondAskedUptoRow, standIns := [], harness := (true, "c35284451049d566b3a081529b1b659d2ce9466078bb6e9d13e885aa30dfdeb3"), looks := true }, kinds := [], alts := [], laidByText := true, laidKinds := [.data, .data, .data], laidTests := true, laidLooks := .later }
def RespondAskedUptoCardSaid : Prop := Claim7.holds Tryz.pinned (.plain (OpenSpec.upto respondAskedSpec)) respondAskedUptoCard

/-- THE SECOND FORM's CARD OF 'waywardenlaw14.RespondMany'. -/
def respondManyUptoCard : Claim7 := { stood := { row := respondManyUptoRow, standIns := [], harness := (true, "c35284451049d566b3a081529b1b659d2ce9466078bb6e9d13e885aa30dfdeb3"), looks := true }, kinds := [], alts := [], laidByText := true, laidKinds := [.data, .data, .data], laidTests := true, laidLooks := .later }
def RespondManyUptoCardSaid : Prop := Claim7.holds Tryz.pinned (.plain (OpenSpec.upto respondManySpec)) respondManyUptoCard

/-- THE SECOND FORM's CARD OF 'waywardenlaw13.FibHolds'. -/
def fibHoldsUptoCard : Claim7 := { stood := { row := fibHoldsUptoRow, standIns := [], harness := (true, "c35284451049d566b3a081529b1b659d2ce9466078bb6e9d13e885aa30dfdeb3"), looks := true }, kinds := [], alts := [], laidByText := true, laidKinds := [.data, .data], laidTests := true, laidLooks := .later }
def FibHoldsUptoCardSaid : Prop := Claim7.holds Tryz.pinned (.plain (OpenSpec.upto fibHoldsSpec)) fibHoldsUptoCard
end Rows
end Go.Proofs.YtgopnfacklmkaaaGreatDoor
