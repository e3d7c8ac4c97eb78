/-
  NARROWER THAN 'FOR EVERY INPUT', by the rows' own cells (each row's printed sentence says how): RibAll: laid · RibHolds: laid · RibPlays: laid · RibApart: laid · RibNone: laid · RibCopies: laid.
  DERIVED. THE GIVEN ROWS OF THIS SEAT. 6 by the template 'for every input the law returns true; each argument reads behind the call as it read before'; 0 by the template 'total and deterministic' (their statements: YtffckpkikdlbpaaGreatDoorTotals.lean).
  GIVEN WITH THE SEED: the statements are not yours to turn. If you find one false, say at which input.
  Laid BY PROGRAM, IN A SANDBOX (cutbox-rows.mjs): the forced cells as the released guide's own fill.sh prints them over the translation ae8e6ed14e82a638… (all of the seat's roots in one cut). By AI agents, Wed Nov 11 2026. No macro, syntax, notation, axiom, sorry.
-/
import Derived.Test.YtffckpkikdlbpaaGreatDoorChecked
import GoSem.Claim
import GoSem.ClaimJoined
import GoSem.ClaimMapViews
import Derived.JoinedTies
import Derived.KernelRfl
namespace Go.Proofs.YtffckpkikdlbpaaGreatDoor
/- THE CELL 'sum', in the pinned program and in every row, IS THE sha256 OF THE DUMP (.gsa) THAT YtffckpkikdlbpaaGreatDoorProg.lean LOADS. Nothing in Lean hashes anything: it is a label: what it is worth is what the hold of that sum in a sandbox is worth. -/
noncomputable def Tryz.pinned : Pinned := { name := "ytffckpkikdlbpaagreatdoor", sum := "ae8e6ed14e82a6388d1e97555d8af73bc3af320baa1c1fa9a5f7035850514d04", checked := Tryz.checked }
namespace Rows
def none {H : Type} : Left H := { results := [], args := [] }

/- WHAT THE LISTED PACKAGE-LEVEL VARIABLES READ AS WHEN THE CALL BEGINS. Each datum BY PROGRAM (the guide's laid-datum.mjs) off the statement by which the dump's own 'gosem.cut.vars' lays the variable. In a bare row this is a premise. The card (YtffckpkikdlbpaaGreatDoorCards.lean) ties it to the program's text. -/
def laid_waywarden_config_capBounds {H : Type} : DataW H := .agg [.lit (.int .i64 1), .lit (.int .i64 256)]
def laid_waywarden_rib_faceBounds {H : Type} : DataW H := .agg [.lit (.int .i64 0), .lit (.int .i64 15)]

/-- 'waywardenlaw12.RibAll': WHATEVER THE INPUT: true; the input reads as it did. -/
def ribAllSpec : ChangeSpec := { name := "ribAll", fn := fun _ => fun
  | [d1, d2, d3, d4] => { results := [.lit (.bool true)], args := [d1, d2, d3, d4] }
  | _ => none }
def ribAllRow : OpenClaim := { program := "ytffckpkikdlbpaagreatdoor", sum := "ae8e6ed14e82a6388d1e97555d8af73bc3af320baa1c1fa9a5f7035850514d04", func := "waywarden/waywardenlaw12.RibAll", spec := "ribAll", inPlace := ["maps.clone"], unfollowed := true, recurses := true, named := ["waywarden/config.capBounds", "waywarden/rib.faceBounds"], plainKeys := false, apart := false, laid := [("waywarden/config.capBounds", laid_waywarden_config_capBounds), ("waywarden/rib.faceBounds", laid_waywarden_rib_faceBounds)] }
def RibAllSaid : Prop := ribAllRow.holds Tryz.pinned (OpenSpec.ofChange ribAllSpec)

/-- ITS FALSE NEIGHBOUR: 'it returns false'. Refute it at one input. -/
def ribAllWrong : ChangeSpec := { name := "ribAll", fn := fun _ => fun
  | [d1, d2, d3, d4] => { results := [.lit (.bool false)], args := [d1, d2, d3, d4] }
  | _ => none }
def RibAllWrongFalsely : Prop := ribAllRow.holds Tryz.pinned (OpenSpec.ofChange ribAllWrong)

/-- 'waywardenlaw12.RibHolds': WHATEVER THE INPUT: true; the input reads as it did. -/
def ribHoldsSpec : ChangeSpec := { name := "ribHolds", fn := fun _ => fun
  | [d1, d2] => { results := [.lit (.bool true)], args := [d1, d2] }
  | _ => none }
def ribHoldsRow : OpenClaim := { program := "ytffckpkikdlbpaagreatdoor", sum := "ae8e6ed14e82a6388d1e97555d8af73bc3af320baa1c1fa9a5f7035850514d04", func := "waywarden/waywardenlaw12.RibHolds", spec := "ribHolds", inPlace := ["maps.clone"], unfollowed := true, recurses := true, named := ["waywarden/config.capBounds", "waywarden/rib.faceBounds"], plainKeys := false, apart := false, laid := [("waywarden/config.capBounds", laid_waywarden_config_capBounds), ("waywarden/rib.faceBounds", laid_waywarden_rib_faceBounds)] }
def RibHoldsSaid : Prop := ribHoldsRow.holds Tryz.pinned (OpenSpec.ofChange ribHoldsSpec)

/-- ITS FALSE NEIGHBOUR: 'it returns false'. Refute it at one input. -/
def ribHoldsWrong : ChangeSpec := { name := "ribHolds", fn := fun _ => fun
  | [d1, d2] => { results := [.lit (.bool false)], args := [d1, d2] }
  | _ => none }
def RibHoldsWrongFalsely : Prop := ribHoldsRow.holds Tryz.pinned (OpenSpec.ofChange ribHoldsWrong)

/-- 'waywardenlaw12.RibPlays': WHATEVER THE INPUT: true; the input reads as it did. -/
def ribPlaysSpec : ChangeSpec := { name := "ribPlays", fn := fun _ => fun
  | [d1, d2] => { results := [.lit (.bool true)], args := [d1, d2] }
  | _ => none }
def ribPlaysRow : OpenClaim := { program := "ytffckpkikdlbpaagreatdoor", sum := "ae8e6ed14e82a6388d1e97555d8af73bc3af320baa1c1fa9a5f7035850514d04", func := "waywarden/waywardenlaw12.RibPlays", spec := "ribPlays", inPlace := ["maps.clone"], unfollowed := true, recurses := true, named := ["waywarden/config.capBounds", "waywarden/rib.faceBounds"], plainKeys := false, apart := false, laid := [("waywarden/config.capBounds", laid_waywarden_config_capBounds), ("waywarden/rib.faceBounds", laid_waywarden_rib_faceBounds)] }
def RibPlaysSaid : Prop := ribPlaysRow.holds Tryz.pinned (OpenSpec.ofChange ribPlaysSpec)

/-- ITS FALSE NEIGHBOUR: 'it returns false'. Refute it at one input. -/
def ribPlaysWrong : ChangeSpec := { name := "ribPlays", fn := fun _ => fun
  | [d1, d2] => { results := [.lit (.bool false)], args := [d1, d2] }
  | _ => none }
def RibPlaysWrongFalsely : Prop := ribPlaysRow.holds Tryz.pinned (OpenSpec.ofChange ribPlaysWrong)

/-- 'waywardenlaw12.RibApart': WHATEVER THE INPUT: true; the input reads as it did. -/
def ribApartSpec : ChangeSpec := { name := "ribApart", fn := fun _ => fun
  | [d1, d2, d3, d4, d5, d6, d7] => { results := [.lit (.bool true)], args := [d1, d2, d3, d4, d5, d6, d7] }
  | _ => none }
def ribApartRow : OpenClaim := { program := "ytffckpkikdlbpaagreatdoor", sum := "ae8e6ed14e82a6388d1e97555d8af73bc3af320baa1c1fa9a5f7035850514d04", func := "waywarden/waywardenlaw12.RibApart", spec := "ribApart", inPlace := ["maps.clone"], unfollowed := true, recurses := true, named := ["waywarden/config.capBounds", "waywarden/rib.faceBounds"], plainKeys := false, apart := false, laid := [("waywarden/config.capBounds", laid_waywarden_config_capBounds), ("waywarden/rib.faceBounds", laid_waywarden_rib_faceBounds)] }
def RibApartSaid : Prop := ribApartRow.holds Tryz.pinned (OpenSpec.ofChange ribApartSpec)

/-- ITS FALSE NEIGHBOUR: 'it returns false'. Refute it at one input. -/
def ribApartWrong : ChangeSpec := { name := "ribApart", fn := fun _ => fun
  | [d1, d2, d3, d4, d5, d6, d7] => { results := [.lit (.bool false)], args := [d1, d2, d3, d4, d5, d6, d7] }
  | _ => none }
def RibApartWrongFalsely : Prop := ribApartRow.holds Tryz.pinned (OpenSpec.ofChange ribApartWrong)

/-- 'waywardenlaw12.RibNone': WHATEVER THE INPUT: true; the input reads as it did. -/
def ribNoneSpec : ChangeSpec := { name := "ribNone", fn := fun _ => fun
  | [d] => { results := [.lit (.bool true)], args := [d] }
  | _ => none }
def ribNoneRow : OpenClaim := { program := "ytffckpkikdlbpaagreatdoor", sum := "ae8e6ed14e82a6388d1e97555d8af73bc3af320baa1c1fa9a5f7035850514d04", func := "waywarden/waywardenlaw12.RibNone", spec := "ribNone", inPlace := ["maps.clone"], unfollowed := true, recurses := true, named := ["waywarden/config.capBounds", "waywarden/rib.faceBounds"], plainKeys := false, apart := false, laid := [("waywarden/config.capBounds", laid_waywarden_config_capBounds), ("waywarden/rib.faceBounds", laid_waywarden_rib_faceBounds)] }
def RibNoneSaid : Prop := ribNoneRow.holds Tryz.pinned (OpenSpec.ofChange ribNoneSpec)

/-- ITS FALSE NEIGHBOUR: 'it returns false'. Refute it at one input. -/
def ribNoneWrong : ChangeSpec := { name := "ribNone", fn := fun _ => fun
  | [d] => { results := [.lit (.bool false)], args := [d] }
  | _ => none }
def RibNoneWrongFalsely : Prop := ribNoneRow.holds Tryz.pinned (OpenSpec.ofChange ribNoneWrong)

/-- 'waywardenlaw12.RibCopies': WHATEVER THE INPUT: true; the input reads as it did. -/
def ribCopiesSpec : ChangeSpec := { name := "ribCopies", fn := fun _ => fun
  | [d1, d2, d3, d4] => { results := [.lit (.bool true)], args := [d1, d2, d3, d4] }
  | _ => none }
def ribCopiesRow : OpenClaim := { program := "ytffckpkikdlbpaagreatdoor", sum := "ae8e6ed14e82a6388d1e97555d8af73bc3af320baa1c1fa9a5f7035850514d04", func := "waywarden/waywardenlaw12.RibCopies", spec := "ribCopies", inPlace := ["maps.clone"], unfollowed := true, recurses := true, named := ["waywarden/config.capBounds", "waywarden/rib.faceBounds"], plainKeys := false, apart := false, laid := [("waywarden/config.capBounds", laid_waywarden_config_capBounds), ("waywarden/rib.faceBounds", laid_waywarden_rib_faceBounds)] }
def RibCopiesSaid : Prop := ribCopiesRow.holds Tryz.pinned (OpenSpec.ofChange ribCopiesSpec)

/-- ITS FALSE NEIGHBOUR: 'it returns false'. Refute it at one input. -/
def ribCopiesWrong : ChangeSpec := { name := "ribCopies", fn := fun _ => fun
  | [d1, d2, d3, d4] => { results := [.lit (.bool false)], args := [d1, d2, d3, d4] }
  | _ => none }
def RibCopiesWrongFalsely : Prop := ribCopiesRow.holds Tryz.pinned (OpenSpec.ofChange ribCopiesWrong)

/- THE SECOND FORM. 'bulk': how many values and letters a reading holds, each counted each time it is reached (what is shared counts as often as it is met; a slice's spare places count too). A statement '..UptoSaid' is the law's where the arguments, and the package variables that the reading takes, are together of bulk at most 1048576: NARROWER than '..Said'. Prove '..Said' where nothing that the law and all that it calls make is longer than what came in: it says more and counts as full. Else prove '..UptoSaid'. A law counts once. -/
mutual
def uptoBulk {H : Type} : DataW H → Nat
  | .lit (.string bytes) => bytes.length + 1
  | .lit _ => 1
  | .nil => 1
  | .ptr d => uptoBulk d + 1
  | .slice elems spare => uptoBulkAll elems + uptoBulkAll spare + 1
  | .agg parts => uptoBulkAll parts + 1
  | .iface _ d => uptoBulk d + 1
  | .map entries => uptoBulkEntries entries + 1
  | .held _ => 1
def uptoBulkAll {H : Type} : List (DataW H) → Nat
  | [] => 0
  | d :: r => uptoBulk d + uptoBulkAll r
def uptoBulkEntries {H : Type} : List (Lit × DataW H) → Nat
  | [] => 0
  | x :: r => uptoBulkEntry x + uptoBulkEntries r
def uptoBulkEntry {H : Type} : Lit × DataW H → Nat
  | (.string bytes, d) => bytes.length + uptoBulk d + 1
  | (_, d) => uptoBulk d + 1
 end
def uptoSmall : (H : Type) → List (DataW H) → Bool := fun _ ds => decide (uptoBulkAll ds ≤ 1048576)
def OpenSpec.upto (s : _root_.Go.ChangeSpec) : _root_.Go.OpenSpec := { _root_.Go.OpenSpec.ofChange s with cond := some uptoSmall }

/-- 'waywardenlaw12.RibAll', WHERE WHAT IT READS IS OF BULK AT MOST 1048576: true; the input reads as it did. -/
def ribAllUptoRow : OpenClaim := { program := "ytffckpkikdlbpaagreatdoor", sum := "ae8e6ed14e82a6388d1e97555d8af73bc3af320baa1c1fa9a5f7035850514d04", func := "waywarden/waywardenlaw12.RibAll", spec := "ribAll", inPlace := ["maps.clone"], unfollowed := true, recurses := true, named := ["waywarden/config.capBounds", "waywarden/rib.faceBounds"], plainKeys := false, apart := false, laid := [("waywarden/config.capBounds", laid_waywarden_config_capBounds), ("waywarden/rib.faceBounds", laid_waywarden_rib_faceBounds)], narrowed := true }
def RibAllUptoSaid : Prop := ribAllUptoRow.holds Tryz.pinned (OpenSpec.upto ribAllSpec)

/-- 'waywardenlaw12.RibHolds', WHERE WHAT IT READS IS OF BULK AT MOST 1048576: true; the input reads as it did. -/
def ribHoldsUptoRow : OpenClaim := { program := "ytffckpkikdlbpaagreatdoor", sum := "ae8e6ed14e82a6388d1e97555d8af73bc3af320baa1c1fa9a5f7035850514d04", func := "waywarden/waywardenlaw12.RibHolds", spec := "ribHolds", inPlace := ["maps.clone"], unfollowed := true, recurses := true, named := ["waywarden/config.capBounds", "waywarden/rib.faceBounds"], plainKeys := false, apart := false, laid := [("waywarden/config.capBounds", laid_waywarden_config_capBounds), ("waywarden/rib.faceBounds", laid_waywarden_rib_faceBounds)], narrowed := true }
def RibHoldsUptoSaid : Prop := ribHoldsUptoRow.holds Tryz.pinned (OpenSpec.upto ribHoldsSpec)

/-- 'waywardenlaw12.RibPlays', WHERE WHAT IT READS IS OF BULK AT MOST 1048576: true; the input reads as it did. -/
def ribPlaysUptoRow : OpenClaim := { program := "ytffckpkikdlbpaagreatdoor", sum := "ae8e6ed14e82a6388d1e97555d8af73bc3af320baa1c1fa9a5f7035850514d04", func := "waywarden/waywardenlaw12.RibPlays", spec := "ribPlays", inPlace := ["maps.clone"], unfollowed := true, recurses := true, named := ["waywarden/config.capBounds", "waywarden/rib.faceBounds"], plainKeys := false, apart := false, laid := [("waywarden/config.capBounds", laid_waywarden_config_capBounds), ("waywarden/rib.faceBounds", laid_waywarden_rib_faceBounds)], narrowed := true }
def RibPlaysUptoSaid : Prop := ribPlaysUptoRow.holds Tryz.pinned (OpenSpec.upto ribPlaysSpec)

/-- 'waywardenlaw12.RibApart', WHERE WHAT IT READS IS OF BULK AT MOST 1048576: true; the input reads as it did. -/
def ribApartUptoRow : OpenClaim := { program := "ytffckpkikdlbpaagreatdoor", sum := "ae8e6ed14e82a6388d1e97555d8af73bc3af320baa1c1fa9a5f7035850514d04", func := "waywarden/waywardenlaw12.RibApart", spec := "ribApart", inPlace := ["maps.clone"], unfollowed := true, recurses := true, named := ["waywarden/config.capBounds", "waywarden/rib.faceBounds"], plainKeys := false, apart := false, laid := [("waywarden/config.capBounds", laid_waywarden_config_capBounds), ("waywarden/rib.faceBounds", laid_waywarden_rib_faceBounds)], narrowed := true }
def RibApartUptoSaid : Prop := ribApartUptoRow.holds Tryz.pinned (OpenSpec.upto ribApartSpec)

/-- 'waywardenlaw12.RibNone', WHERE WHAT IT READS IS OF BULK AT MOST 1048576: true; the input reads as it did. -/
def ribNoneUptoRow : OpenClaim := { program := "ytffckpkikdlbpaagreatdoor", sum := "ae8e6ed14e82a6388d1e97555d8af73bc3af320baa1c1fa9a5f7035850514d04", func := "waywarden/waywardenlaw12.RibNone", spec := "ribNone", inPlace := ["maps.clone"], unfollowed := true, recurses := true, named := ["waywarden/config.capBounds", "waywarden/rib.faceBounds"], plainKeys := false, apart := false, laid := [("waywarden/config.capBounds", laid_waywarden_config_capBounds), ("waywarden/rib.faceBounds", laid_waywarden_rib_faceBounds)], narrowed := true }
def RibNoneUptoSaid : Prop := ribNoneUptoRow.holds Tryz.pinned (OpenSpec.upto ribNoneSpec)

/-- 'waywardenlaw12.RibCopies', WHERE WHAT IT READS IS OF BULK AT MOST 1048576: true; the input reads as it did. -/
def ribCopiesUptoRow : OpenClaim := { program := "ytffckpkikdlbpaagreatdoor", sum := "ae8e6ed14e82a6388d1e97555d8af73bc3af320baa1c1fa9a5f7035850514d04", func := "waywarden/waywardenlaw12.RibCopies", spec := "ribCopies", inPlace := ["maps.clone"], unfollowed := true, recurses := true, named := ["waywarden/config.capBounds", "waywarden/rib.faceBounds"], plainKeys := false, apart := false, laid := [("waywarden/config.capBounds", laid_waywarden_config_capBounds), ("waywarden/rib.faceBounds", laid_waywarden_rib_faceBounds)], narrowed := true }
def RibCopiesUptoSaid : Prop := ribCopiesUptoRow.holds Tryz.pinned (OpenSpec.upto ribCopiesSpec)

end Rows
end Go.Proofs.YtffckpkikdlbpaaGreatDoor
