/-
  DERIVED. GIVEN WITH THE SEED: THE PROGRAM's TIES (one call each: nine closed facts by the kernel) AND EACH ROW's TIE, after the 31st guide's Derived/Test/Toyas{Tie, Card}.lean. No idea stands in it: it is a product of the set-up. Laid BY PROGRAM, IN A SANDBOX (cutbox-door.mjs). By AI agents, Wed Nov 11 2026. No macro, syntax, notation, axiom, sorry.
-/
import Derived.Test.YtgopnfacklmkaaaGreatDoorRows
import Derived.LaidByTextLater
import Derived.SevenTiedAt
import Derived.LaidSub
import Derived.LaidOnce
namespace Go.Proofs.YtgopnfacklmkaaaGreatDoor
open Go
set_option maxRecDepth 100000
theorem seatTie1 : Tryz.prog.laidByTextLater [("waywarden/octet.widths", Rows.laid_waywarden_octet_widths), ("waywarden/prefix.rels", Rows.laid_waywarden_prefix_rels), ("waywarden/config.capBounds", Rows.laid_waywarden_config_capBounds), ("waywarden/respond.faceBounds", Rows.laid_waywarden_respond_faceBounds)] [.data, .data, .data, .data] true :=
  Program.laidByTextLater_by_one 31 8 5 (by kernel_rfl) (by kernel_rfl) (by kernel_rfl) (by kernel_rfl) (by kernel_rfl) (by kernel_rfl) (fun _ _ => by kernel_rfl)
theorem noOwnUnsafe : Tryz.pinned.checked.prog.headLifts.contains "ownunsafe" = false := by kernel_rfl
theorem tie : Tryz.prog.laidByTextLater [("waywarden/octet.widths", Rows.laid_waywarden_octet_widths), ("waywarden/config.capBounds", Rows.laid_waywarden_config_capBounds)] [.data, .data] true :=
  Program.laidByTextLater.sub seatTie1 ["waywarden/octet.widths", "waywarden/config.capBounds"] (by kernel_rfl) (by kernel_rfl)
theorem auditNames_row_tie : Rows.auditNamesRow.laidByTextAt .later Tryz.pinned [.data, .data] true :=
  OpenClaim.laidByTextAt_later rfl rfl tie noOwnUnsafe
theorem tie2 : Tryz.prog.laidByTextLater [("waywarden/octet.widths", Rows.laid_waywarden_octet_widths), ("waywarden/config.capBounds", Rows.laid_waywarden_config_capBounds), ("waywarden/respond.faceBounds", Rows.laid_waywarden_respond_faceBounds)] [.data, .data, .data] true :=
  Program.laidByTextLater.sub seatTie1 ["waywarden/octet.widths", "waywarden/config.capBounds", "waywarden/respond.faceBounds"] (by kernel_rfl) (by kernel_rfl)
theorem respondAsked_row_tie : Rows.respondAskedRow.laidByTextAt .later Tryz.pinned [.data, .data, .data] true :=
  OpenClaim.laidByTextAt_later rfl rfl tie2 noOwnUnsafe
theorem respondMany_row_tie : Rows.respondManyRow.laidByTextAt .later Tryz.pinned [.data, .data, .data] true :=
  OpenClaim.laidByTextAt_later rfl rfl tie2 noOwnUnsafe
theorem tie3 : Tryz.prog.laidByTextLater [("waywarden/prefix.rels", Rows.laid_waywarden_prefix_rels), ("waywarden/config.capBounds", Rows.laid_waywarden_config_capBounds)] [.data, .data] true :=
  Program.laidByTextLater.sub seatTie1 ["waywarden/prefix.rels", "waywarden/config.capBounds"] (by kernel_rfl) (by kernel_rfl)
theorem fibHolds_row_tie : Rows.fibHoldsRow.laidByTextAt .later Tryz.pinned [.data, .data] true :=
  OpenClaim.laidByTextAt_later rfl rfl tie3 noOwnUnsafe
theorem auditNamesUpto_row_tie : Rows.auditNamesUptoRow.laidByTextAt .later Tryz.pinned [.data, .data] true :=
  OpenClaim.laidByTextAt_later rfl rfl tie noOwnUnsafe
theorem respondAskedUpto_row_tie : Rows.respondAskedUptoRow.laidByTextAt .later Tryz.pinned [.data, .data, .data] true :=
  OpenClaim.laidByTextAt_later rfl rfl tie2 noOwnUnsafe
theorem respondManyUpto_row_tie : Rows.respondManyUptoRow.laidByTextAt .later Tryz.pinned [.data, .data, .data] true :=
  OpenClaim.laidByTextAt_later rfl rfl tie2 noOwnUnsafe
theorem fibHoldsUpto_row_tie : Rows.fibHoldsUptoRow.laidByTextAt .later Tryz.pinned [.data, .data] true :=
  OpenClaim.laidByTextAt_later rfl rfl tie3 noOwnUnsafe
end Go.Proofs.YtgopnfacklmkaaaGreatDoor
