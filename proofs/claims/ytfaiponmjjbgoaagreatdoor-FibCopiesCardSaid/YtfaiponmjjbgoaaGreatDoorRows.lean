/-
  NARROWER THAN 'FOR EVERY INPUT', by the rows' own cells (each row's printed sentence says how): FibAll: laid · FibComes: laid · FibCopies: laid.
  DERIVED. THE GIVEN ROWS OF THIS SEAT. 3 by the template 'for every input the law returns true; each argument reads behind the call as it read before'; 0 by the template 'total and deterministic' (their statements: YtfaiponmjjbgoaaGreatDoorTotals.lean).
  GIVEN WITH THE SEED: the statements are not yours to turn. If you find one false, say at which input.
  Laid BY PROGRAM, IN A SANDBOX (cutbox-rows.mjs): the forced cells as the released guide's own fill.sh prints them over the translation 5fa60c80b6cfcf18… (all of the seat's roots in one cut). By AI agents, Wed Nov 11 2026. No macro, syntax, notation, axiom, sorry.
-/
import Derived.Test.YtfaiponmjjbgoaaGreatDoorChecked
import GoSem.Claim
import GoSem.ClaimJoined
import GoSem.ClaimMapViews
import Derived.JoinedTies
import Derived.KernelRfl
namespace Go.Proofs.YtfaiponmjjbgoaaGreatDoor
/- THE CELL 'sum', in the pinned program and in every row, IS THE sha256 OF THE DUMP (.gsa) THAT YtfaiponmjjbgoaaGreatDoorProg.lean LOADS. Nothing in Lean hashes anything: it is a label: what it is worth is what the hold of that sum in a sandbox is worth. -/
noncomputable def Tryz.pinned : Pinned := { name := "ytfaiponmjjbgoaagreatdoor", sum := "5fa60c80b6cfcf186f302053bcc6da320de59609dd5881eaa48e0cc51d30bbc1", checked := Tryz.checked }
namespace Rows
def none {H : Type} : Left H := { results := [], args := [] }

/- WHAT THE LISTED PACKAGE-LEVEL VARIABLES READ AS WHEN THE CALL BEGINS. Each datum BY PROGRAM (the guide's laid-datum.mjs) off the statement by which the dump's own 'gosem.cut.vars' lays the variable. In a bare row this is a premise. The card (YtfaiponmjjbgoaaGreatDoorCards.lean) ties it to the program's text. -/
def laid_waywarden_prefix_rels {H : Type} : DataW H := .agg [.agg [.lit (.int .i64 4), .lit (.int .i64 2)], .agg [.lit (.int .i64 3), .lit (.int .i64 1)]]

/-- 'waywardenlaw13.FibAll': WHATEVER THE INPUT: true; the input reads as it did. -/
def fibAllSpec : ChangeSpec := { name := "fibAll", fn := fun _ => fun
  | [d1, d2, d3] => { results := [.lit (.bool true)], args := [d1, d2, d3] }
  | _ => none }
def fibAllRow : OpenClaim := { program := "ytfaiponmjjbgoaagreatdoor", sum := "5fa60c80b6cfcf186f302053bcc6da320de59609dd5881eaa48e0cc51d30bbc1", func := "waywarden/waywardenlaw13.FibAll", spec := "fibAll", unfollowed := true, recurses := true, named := ["waywarden/prefix.rels"], plainKeys := false, apart := false, laid := [("waywarden/prefix.rels", laid_waywarden_prefix_rels)] }
def FibAllSaid : Prop := fibAllRow.holds Tryz.pinned (OpenSpec.ofChange fibAllSpec)

/-- ITS FALSE NEIGHBOUR: 'it returns false'. Refute it at one input. -/
def fibAllWrong : ChangeSpec := { name := "fibAll", fn := fun _ => fun
  | [d1, d2, d3] => { results := [.lit (.bool false)], args := [d1, d2, d3] }
  | _ => none }
def FibAllWrongFalsely : Prop := fibAllRow.holds Tryz.pinned (OpenSpec.ofChange fibAllWrong)

/-- 'waywardenlaw13.FibComes': WHATEVER THE INPUT: true; the input reads as it did. -/
def fibComesSpec : ChangeSpec := { name := "fibComes", fn := fun _ => fun
  | [d1, d2] => { results := [.lit (.bool true)], args := [d1, d2] }
  | _ => none }
def fibComesRow : OpenClaim := { program := "ytfaiponmjjbgoaagreatdoor", sum := "5fa60c80b6cfcf186f302053bcc6da320de59609dd5881eaa48e0cc51d30bbc1", func := "waywarden/waywardenlaw13.FibComes", spec := "fibComes", unfollowed := true, recurses := true, named := ["waywarden/prefix.rels"], plainKeys := false, apart := false, laid := [("waywarden/prefix.rels", laid_waywarden_prefix_rels)] }
def FibComesSaid : Prop := fibComesRow.holds Tryz.pinned (OpenSpec.ofChange fibComesSpec)

/-- ITS FALSE NEIGHBOUR: 'it returns false'. Refute it at one input. -/
def fibComesWrong : ChangeSpec := { name := "fibComes", fn := fun _ => fun
  | [d1, d2] => { results := [.lit (.bool false)], args := [d1, d2] }
  | _ => none }
def FibComesWrongFalsely : Prop := fibComesRow.holds Tryz.pinned (OpenSpec.ofChange fibComesWrong)

/-- 'waywardenlaw13.FibCopies': WHATEVER THE INPUT: true; the input reads as it did. -/
def fibCopiesSpec : ChangeSpec := { name := "fibCopies", fn := fun _ => fun
  | [d1, d2, d3, d4] => { results := [.lit (.bool true)], args := [d1, d2, d3, d4] }
  | _ => none }
def fibCopiesRow : OpenClaim := { program := "ytfaiponmjjbgoaagreatdoor", sum := "5fa60c80b6cfcf186f302053bcc6da320de59609dd5881eaa48e0cc51d30bbc1", func := "waywarden/waywardenlaw13.FibCopies", spec := "fibCopies", unfollowed := true, recurses := true, named := ["waywarden/prefix.rels"], plainKeys := false, apart := false, laid := [("waywarden/prefix.rels", laid_waywarden_prefix_rels)] }
def FibCopiesSaid : Prop := fibCopiesRow.holds Tryz.pinned (OpenSpec.ofChange fibCopiesSpec)

/-- ITS FALSE NEIGHBOUR: 'it returns false'. Refute it at one input. -/
def fibCopiesWrong : ChangeSpec := { name := "fibCopies", fn := fun _ => fun
  | [d1, d2, d3, d4] => { results := [.lit (.bool false)], args := [d1, d2, d3, d4] }
  | _ => none }
def FibCopiesWrongFalsely : Prop := fibCopiesRow.holds Tryz.pinned (OpenSpec.ofChange fibCopiesWrong)

/- THE SECOND FORM. 'bulk': how many values and letters a reading holds, each counted each time it is reached (what is shared counts as often as it is met; a slice's spare places count too). A statement '..UptoSaid' is the law's where the arguments, and the package variables that the reading takes, are together of bulk at most 1048576: NARROWER than '..Said'. Prove '..Said' where nothing that the law and all that it calls make is longer than what came in: it says more and counts as full. Else prove '..UptoSaid'. A law counts once. -/
mutual
def uptoBulk {H : Type} : DataW H → Nat
  | .lit (.string bytes) => bytes.length + 1
  | .lit _ => 1
  | .nil => 1
  | .ptr d => uptoBulk d + 1
  | .slice elems spare => uptoBulkAll elems + uptoBulkAll spare + 1
  | .agg parts => uptoBulkAll parts + 1
  | .iface _ d => uptoBulk d + 1
  | .map entries => uptoBulkEntries entries + 1
  | .held _ => 1
def uptoBulkAll {H : Type} : List (DataW H) → Nat
  | [] => 0
  | d :: r => uptoBulk d + uptoBulkAll r
def uptoBulkEntries {H : Type} : List (Lit × DataW H) → Nat
  | [] => 0
  | x :: r => uptoBulkEntry x + uptoBulkEntries r
def uptoBulkEntry {H : Type} : Lit × DataW H → Nat
  | (.string bytes, d) => bytes.length + uptoBulk d + 1
  | (_, d) => uptoBulk d + 1
 end
def uptoSmall : (H : Type) → List (DataW H) → Bool := fun _ ds => decide (uptoBulkAll ds ≤ 1048576)
def OpenSpec.upto (s : _root_.Go.ChangeSpec) : _root_.Go.OpenSpec := { _root_.Go.OpenSpec.ofChange s with cond := some uptoSmall }

/-- 'waywardenlaw13.FibAll', WHERE WHAT IT READS IS OF BULK AT MOST 1048576: true; the input reads as it did. -/
def fibAllUptoRow : OpenClaim := { program := "ytfaiponmjjbgoaagreatdoor", sum := "5fa60c80b6cfcf186f302053bcc6da320de59609dd5881eaa48e0cc51d30bbc1", func := "waywarden/waywardenlaw13.FibAll", spec := "fibAll", unfollowed := true, recurses := true, named := ["waywarden/prefix.rels"], plainKeys := false, apart := false, laid := [("waywarden/prefix.rels", laid_waywarden_prefix_rels)], narrowed := true }
def FibAllUptoSaid : Prop := fibAllUptoRow.holds Tryz.pinned (OpenSpec.upto fibAllSpec)

/-- 'waywardenlaw13.FibComes', WHERE WHAT IT READS IS OF BULK AT MOST 1048576: true; the input reads as it did. -/
def fibComesUptoRow : OpenClaim := { program := "ytfaiponmjjbgoaagreatdoor", sum := "5fa60c80b6cfcf186f302053bcc6da320de59609dd5881eaa48e0cc51d30bbc1", func := "waywarden/waywardenlaw13.FibComes", spec := "fibComes", unfollowed := true, recurses := true, named := ["waywarden/prefix.rels"], plainKeys := false, apart := false, laid := [("waywarden/prefix.rels", laid_waywarden_prefix_rels)], narrowed := true }
def FibComesUptoSaid : Prop := fibComesUptoRow.holds Tryz.pinned (OpenSpec.upto fibComesSpec)

/-- 'waywardenlaw13.FibCopies', WHERE WHAT IT READS IS OF BULK AT MOST 1048576: true; the input reads as it did. -/
def fibCopiesUptoRow : OpenClaim := { program := "ytfaiponmjjbgoaagreatdoor", sum := "5fa60c80b6cfcf186f302053bcc6da320de59609dd5881eaa48e0cc51d30bbc1", func := "waywarden/waywardenlaw13.FibCopies", spec := "fibCopies", unfollowed := true, recurses := true, named := ["waywarden/prefix.rels"], plainKeys := false, apart := false, laid := [("waywarden/prefix.rels", laid_waywarden_prefix_rels)], narrowed := true }
def FibCopiesUptoSaid : Prop := fibCopiesUptoRow.holds Tryz.pinned (OpenSpec.upto fibCopiesSpec)

end Rows
end Go.Proofs.YtfaiponmjjbgoaaGreatDoor
