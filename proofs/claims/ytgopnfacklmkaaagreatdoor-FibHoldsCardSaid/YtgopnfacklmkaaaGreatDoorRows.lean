/-
  NARROWER THAN 'FOR EVERY INPUT', by the rows' own cells (each row's printed sentence says how): AuditNames: laid · RespondAsked: laid · RespondMany: laid · FibHolds: laid.
  DERIVED. THE GIVEN ROWS OF THIS SEAT. 4 by the template 'for every input the law returns true; each argument reads behind the call as it read before'; 0 by the template 'total and deterministic' (their statements: YtgopnfacklmkaaaGreatDoorTotals.lean).
  GIVEN WITH THE SEED: the statements are not yours to turn. If you find one false, say at which input.
  Laid BY PROGRAM, IN A SANDBOX (cutbox-rows.mjs): the forced cells as the released guide's own fill.sh prints them over the translation 0172bc1d911e89b5… (all of the seat's roots in one cut). By AI agents, Wed Nov 11 2026. No macro, syntax, notation, axiom, sorry.
-/
import Derived.Test.YtgopnfacklmkaaaGreatDoorChecked
import GoSem.Claim
import GoSem.ClaimJoined
import GoSem.ClaimMapViews
import Derived.JoinedTies
import Derived.KernelRfl
namespace Go.Proofs.YtgopnfacklmkaaaGreatDoor
/- THE CELL 'sum', in the pinned program and in every row, IS THE sha256 OF THE DUMP (.gsa) THAT YtgopnfacklmkaaaGreatDoorProg.lean LOADS. Nothing in Lean hashes anything: it is a label: what it is worth is what the hold of that sum in a sandbox is worth. -/
noncomputable def Tryz.pinned : Pinned := { name := "ytgopnfacklmkaaagreatdoor", sum := "0172bc1d911e89b53b5a47ff165272bdaac916b4368702be489d8baf94f35a79", checked := Tryz.checked }
namespace Rows
def none {H : Type} : Left H := { results := [], args := [] }

/- WHAT THE LISTED PACKAGE-LEVEL VARIABLES READ AS WHEN THE CALL BEGINS. Each datum BY PROGRAM (the guide's laid-datum.mjs) off the statement by which the dump's own 'gosem.cut.vars' lays the variable. In a bare row this is a premise. The card (YtgopnfacklmkaaaGreatDoorCards.lean) ties it to the program's text. -/
def laid_waywarden_octet_widths {H : Type} : DataW H := .agg [.lit (.int .i64 1), .lit (.int .i64 2), .lit (.int .i64 4)]
def laid_waywarden_config_capBounds {H : Type} : DataW H := .agg [.lit (.int .i64 1), .lit (.int .i64 256)]
def laid_waywarden_respond_faceBounds {H : Type} : DataW H := .agg [.lit (.int .i64 0), .lit (.int .i64 15)]
def laid_waywarden_prefix_rels {H : Type} : DataW H := .agg [.agg [.lit (.int .i64 4), .lit (.int .i64 2)], .agg [.lit (.int .i64 3), .lit (.int .i64 1)]]

/-- 'waywardenlaw24.AuditNames': WHATEVER THE INPUT: true; the input reads as it did. -/
def auditNamesSpec : ChangeSpec := { name := "auditNames", fn := fun _ => fun
  | [d] => { results := [.lit (.bool true)], args := [d] }
  | _ => none }
def auditNamesRow : OpenClaim := { program := "ytgopnfacklmkaaagreatdoor", sum := "0172bc1d911e89b53b5a47ff165272bdaac916b4368702be489d8baf94f35a79", func := "waywarden/waywardenlaw24.AuditNames", spec := "auditNames", inPlace := ["maps.clone"], unfollowed := true, recurses := true, named := ["waywarden/config.capBounds", "waywarden/octet.widths"], plainKeys := false, apart := false, laid := [("waywarden/octet.widths", laid_waywarden_octet_widths), ("waywarden/config.capBounds", laid_waywarden_config_capBounds)] }
def AuditNamesSaid : Prop := auditNamesRow.holds Tryz.pinned (OpenSpec.ofChange auditNamesSpec)

/-- ITS FALSE NEIGHBOUR: 'it returns false'. Refute it at one input. -/
def auditNamesWrong : ChangeSpec := { name := "auditNames", fn := fun _ => fun
  | [d] => { results := [.lit (.bool false)], args := [d] }
  | _ => none }
def AuditNamesWrongFalsely : Prop := auditNamesRow.holds Tryz.pinned (OpenSpec.ofChange auditNamesWrong)

/-- 'waywardenlaw14.RespondAsked': WHATEVER THE INPUT: true; the input reads as it did. -/
def respondAskedSpec : ChangeSpec := { name := "respondAsked", fn := fun _ => fun
  | [d1, d2] => { results := [.lit (.bool true)], args := [d1, d2] }
  | _ => none }
def respondAskedRow : OpenClaim := { program := "ytgopnfacklmkaaagreatdoor", sum := "0172bc1d911e89b53b5a47ff165272bdaac916b4368702be489d8baf94f35a79", func := "waywarden/waywardenlaw14.RespondAsked", spec := "respondAsked", unfollowed := true, recurses := true, named := ["waywarden/config.capBounds", "waywarden/respond.faceBounds", "waywarden/octet.widths"], plainKeys := false, apart := false, laid := [("waywarden/octet.widths", laid_waywarden_octet_widths), ("waywarden/config.capBounds", laid_waywarden_config_capBounds), ("waywarden/respond.faceBounds", laid_waywarden_respond_faceBounds)] }
def RespondAskedSaid : Prop := respondAskedRow.holds Tryz.pinned (OpenSpec.ofChange respondAskedSpec)

/-- ITS FALSE NEIGHBOUR: 'it returns false'. Refute it at one input. -/
def respondAskedWrong : ChangeSpec := { name := "respondAsked", fn := fun _ => fun
  | [d1, d2] => { results := [.lit (.bool false)], args := [d1, d2] }
  | _ => none }
def RespondAskedWrongFalsely : Prop := respondAskedRow.holds Tryz.pinned (OpenSpec.ofChange respondAskedWrong)

/-- 'waywardenlaw14.RespondMany': WHATEVER THE INPUT: true; the input reads as it did. -/
def respondManySpec : ChangeSpec := { name := "respondMany", fn := fun _ => fun
  | [d1, d2] => { results := [.lit (.bool true)], args := [d1, d2] }
  | _ => none }
def respondManyRow : OpenClaim := { program := "ytgopnfacklmkaaagreatdoor", sum := "0172bc1d911e89b53b5a47ff165272bdaac916b4368702be489d8baf94f35a79", func := "waywarden/waywardenlaw14.RespondMany", spec := "respondMany", unfollowed := true, recurses := true, named := ["waywarden/config.capBounds", "waywarden/respond.faceBounds", "waywarden/octet.widths"], plainKeys := false, apart := false, laid := [("waywarden/octet.widths", laid_waywarden_octet_widths), ("waywarden/config.capBounds", laid_waywarden_config_capBounds), ("waywarden/respond.faceBounds", laid_waywarden_respond_faceBounds)] }
def RespondManySaid : Prop := respondManyRow.holds Tryz.pinned (OpenSpec.ofChange respondManySpec)

/-- ITS FALSE NEIGHBOUR: 'it returns false'. Refute it at one input. -/
def respondManyWrong : ChangeSpec := { name := "respondMany", fn := fun _ => fun
  | [d1, d2] => { results := [.lit (.bool false)], args := [d1, d2] }
  | _ => none }
def RespondManyWrongFalsely : Prop := respondManyRow.holds Tryz.pinned (OpenSpec.ofChange respondManyWrong)

/-- 'waywardenlaw13.FibHolds': WHATEVER THE INPUT: true; the input reads as it did. -/
def fibHoldsSpec : ChangeSpec := { name := "fibHolds", fn := fun _ => fun
  | [d1, d2, d3] => { results := [.lit (.bool true)], args := [d1, d2, d3] }
  | _ => none }
def fibHoldsRow : OpenClaim := { program := "ytgopnfacklmkaaagreatdoor", sum := "0172bc1d911e89b53b5a47ff165272bdaac916b4368702be489d8baf94f35a79", func := "waywarden/waywardenlaw13.FibHolds", spec := "fibHolds", unfollowed := true, recurses := true, named := ["waywarden/prefix.rels", "waywarden/config.capBounds"], plainKeys := false, apart := false, laid := [("waywarden/prefix.rels", laid_waywarden_prefix_rels), ("waywarden/config.capBounds", laid_waywarden_config_capBounds)] }
def FibHoldsSaid : Prop := fibHoldsRow.holds Tryz.pinned (OpenSpec.ofChange fibHoldsSpec)

/-- ITS FALSE NEIGHBOUR: 'it returns false'. Refute it at one input. -/
def fibHoldsWrong : ChangeSpec := { name := "fibHolds", fn := fun _ => fun
  | [d1, d2, d3] => { results := [.lit (.bool false)], args := [d1, d2, d3] }
  | _ => none }
def FibHoldsWrongFalsely : Prop := fibHoldsRow.holds Tryz.pinned (OpenSpec.ofChange fibHoldsWrong)

/- THE SECOND FORM. 'bulk': how many values and letters a reading holds, each counted each time it is reached (what is shared counts as often as it is met; a slice's spare places count too). A statement '..UptoSaid' is the law's where the arguments, and the package variables that the reading takes, are together of bulk at most 1048576: NARROWER than '..Said'. Prove '..Said' where nothing that the law and all that it calls make is longer than what came in: it says more and counts as full. Else prove '..UptoSaid'. A law counts once. -/
mutual
def uptoBulk {H : Type} : DataW H → Nat
  | .lit (.string bytes) => bytes.length + 1
  | .lit _ => 1
  | .nil => 1
  | .ptr d => uptoBulk d + 1
  | .slice elems spare => uptoBulkAll elems + uptoBulkAll spare + 1
  | .agg parts => uptoBulkAll parts + 1
  | .iface _ d => uptoBulk d + 1
  | .map entries => uptoBulkEntries entries + 1
  | .held _ => 1
def uptoBulkAll {H : Type} : List (DataW H) → Nat
  | [] => 0
  | d :: r => uptoBulk d + uptoBulkAll r
def uptoBulkEntries {H : Type} : List (Lit × DataW H) → Nat
  | [] => 0
  | x :: r => uptoBulkEntry x + uptoBulkEntries r
def uptoBulkEntry {H : Type} : Lit × DataW H → Nat
  | (.string bytes, d) => bytes.length + uptoBulk d + 1
  | (_, d) => uptoBulk d + 1
 end
def uptoSmall : (H : Type) → List (DataW H) → Bool := fun _ ds => decide (uptoBulkAll ds ≤ 1048576)
def OpenSpec.upto (s : _root_.Go.ChangeSpec) : _root_.Go.OpenSpec := { _root_.Go.OpenSpec.ofChange s with cond := some uptoSmall }

/-- 'waywardenlaw24.AuditNames', WHERE WHAT IT READS IS OF BULK AT MOST 1048576: true; the input reads as it did. -/
def auditNamesUptoRow : OpenClaim := { program := "ytgopnfacklmkaaagreatdoor", sum := "0172bc1d911e89b53b5a47ff165272bdaac916b4368702be489d8baf94f35a79", func := "waywarden/waywardenlaw24.AuditNames", spec := "auditNames", inPlace := ["maps.clone"], unfollowed := true, recurses := true, named := ["waywarden/config.capBounds", "waywarden/octet.widths"], plainKeys := false, apart := false, laid := [("waywarden/octet.widths", laid_waywarden_octet_widths), ("waywarden/config.capBounds", laid_waywarden_config_capBounds)], narrowed := true }
def AuditNamesUptoSaid : Prop := auditNamesUptoRow.holds Tryz.pinned (OpenSpec.upto auditNamesSpec)

/-- 'waywardenlaw14.RespondAsked', WHERE WHAT IT READS IS OF BULK AT MOST 1048576: true; the input reads as it did. -/
def respondAskedUptoRow : OpenClaim := { program := "ytgopnfacklmkaaagreatdoor", sum := "0172bc1d911e89b53b5a47ff165272bdaac916b4368702be489d8baf94f35a79", func := "waywarden/waywardenlaw14.RespondAsked", spec := "respondAsked", unfollowed := true, recurses := true, named := ["waywarden/config.capBounds", "waywarden/respond.faceBounds", "waywarden/octet.widths"], plainKeys := false, apart := false, laid := [("waywarden/octet.widths", laid_waywarden_octet_widths), ("waywarden/config.capBounds", laid_waywarden_config_capBounds), ("waywarden/respond.faceBounds", laid_waywarden_respond_faceBounds)], narrowed := true }
def RespondAskedUptoSaid : Prop := respondAskedUptoRow.holds Tryz.pinned (OpenSpec.upto respondAskedSpec)

/-- 'waywardenlaw14.RespondMany', WHERE WHAT IT READS IS OF BULK AT MOST 1048576: true; the input reads as it did. -/
def respondManyUptoRow : OpenClaim := { program := "ytgopnfacklmkaaagreatdoor", sum := "0172bc1d911e89b53b5a47ff165272bdaac916b4368702be489d8baf94f35a79", func := "waywarden/waywardenlaw14.RespondMany", spec := "respondMany", unfollowed := true, recurses := true, named := ["waywarden/config.capBounds", "waywarden/respond.faceBounds", "waywarden/octet.widths"], plainKeys := false, apart := false, laid := [("waywarden/octet.widths", laid_waywarden_octet_widths), ("waywarden/config.capBounds", laid_waywarden_config_capBounds), ("waywarden/respond.faceBounds", laid_waywarden_respond_faceBounds)], narrowed := true }
def RespondManyUptoSaid : Prop := respondManyUptoRow.holds Tryz.pinned (OpenSpec.upto respondManySpec)

/-- 'waywardenlaw13.FibHolds', WHERE WHAT IT READS IS OF BULK AT MOST 1048576: true; the input reads as it did. -/
def fibHoldsUptoRow : OpenClaim := { program := "ytgopnfacklmkaaagreatdoor", sum := "0172bc1d911e89b53b5a47ff165272bdaac916b4368702be489d8baf94f35a79", func := "waywarden/waywardenlaw13.FibHolds", spec := "fibHolds", unfollowed := true, recurses := true, named := ["waywarden/prefix.rels", "waywarden/config.capBounds"], plainKeys := false, apart := false, laid := [("waywarden/prefix.rels", laid_waywarden_prefix_rels), ("waywarden/config.capBounds", laid_waywarden_config_capBounds)], narrowed := true }
def FibHoldsUptoSaid : Prop := fibHoldsUptoRow.holds Tryz.pinned (OpenSpec.upto fibHoldsSpec)

end Rows
end Go.Proofs.YtgopnfacklmkaaaGreatDoor
