/-
  No cell of these rows narrows 'for every input' (looked for: loops, veiled, ifaces, maps, wideKeys, modest, calm, conditions, laid).
  DERIVED. THE GIVEN ROWS OF THIS SEAT. 5 by the template 'for every input the law returns true; each argument reads behind the call as it read before'; 0 by the template 'total and deterministic' (their statements: YtgnhhhcelfaliaaTotals.lean).
  GIVEN WITH THE SEED: the statements are not yours to turn. If you find one false, say at which input.
  Laid BY PROGRAM, IN A SANDBOX (cutbox-rows.mjs): the forced cells as the released guide's own fill.sh prints them over the translation b755f7fdedb09cdd… (all of the seat's roots in one cut). By AI agents, Wed Nov 11 2026. No macro, syntax, notation, axiom, sorry.
-/
import Derived.Test.YtgnhhhcelfaliaaChecked
import GoSem.Claim
import GoSem.ClaimJoined
import GoSem.ClaimMapViews
import Derived.JoinedTies
import Derived.KernelRfl
namespace Go.Proofs.Ytgnhhhcelfaliaa
/- THE CELL 'sum', in the pinned program and in every row, IS THE sha256 OF THE DUMP (.gsa) THAT YtgnhhhcelfaliaaProg.lean LOADS. Nothing in Lean hashes anything: it is a label: what it is worth is what the hold of that sum in a sandbox is worth. -/
noncomputable def Try.pinned : Pinned := { name := "ytgnhhhcelfaliaa", sum := "b755f7fdedb09cddf2a2d5e96137f3658249764ac1073d4c825a91a3915db49a", checked := Try.checked }
namespace Rows
def none {H : Type} : Left H := { results := [], args := [] }

/-- 'waywardenlaw18.GraphFaces': WHATEVER THE INPUT: true; the input reads as it did. -/
def graphFacesSpec : ChangeSpec := { name := "graphFaces", fn := fun _ => fun
  | [d1, d2, d3] => { results := [.lit (.bool true)], args := [d1, d2, d3] }
  | _ => none }
def graphFacesRow : OpenClaim := { program := "ytgnhhhcelfaliaa", sum := "b755f7fdedb09cddf2a2d5e96137f3658249764ac1073d4c825a91a3915db49a", func := "waywarden/waywardenlaw18.GraphFaces", spec := "graphFaces", unfollowed := true, recurses := true, apart := false }
def GraphFacesSaid : Prop := graphFacesRow.holds Try.pinned (OpenSpec.ofChange graphFacesSpec)

/-- ITS FALSE NEIGHBOUR: 'it returns false'. Refute it at one input. -/
def graphFacesWrong : ChangeSpec := { name := "graphFaces", fn := fun _ => fun
  | [d1, d2, d3] => { results := [.lit (.bool false)], args := [d1, d2, d3] }
  | _ => none }
def GraphFacesWrongFalsely : Prop := graphFacesRow.holds Try.pinned (OpenSpec.ofChange graphFacesWrong)

/-- 'waywardenlaw18.GraphDist': WHATEVER THE INPUT: true; the input reads as it did. -/
def graphDistSpec : ChangeSpec := { name := "graphDist", fn := fun _ => fun
  | [d1, d2] => { results := [.lit (.bool true)], args := [d1, d2] }
  | _ => none }
def graphDistRow : OpenClaim := { program := "ytgnhhhcelfaliaa", sum := "b755f7fdedb09cddf2a2d5e96137f3658249764ac1073d4c825a91a3915db49a", func := "waywarden/waywardenlaw18.GraphDist", spec := "graphDist", unfollowed := true, recurses := true, apart := false }
def GraphDistSaid : Prop := graphDistRow.holds Try.pinned (OpenSpec.ofChange graphDistSpec)

/-- ITS FALSE NEIGHBOUR: 'it returns false'. Refute it at one input. -/
def graphDistWrong : ChangeSpec := { name := "graphDist", fn := fun _ => fun
  | [d1, d2] => { results := [.lit (.bool false)], args := [d1, d2] }
  | _ => none }
def GraphDistWrongFalsely : Prop := graphDistRow.holds Try.pinned (OpenSpec.ofChange graphDistWrong)

/-- 'waywardenlaw18.GraphNear': WHATEVER THE INPUT: true; the input reads as it did. -/
def graphNearSpec : ChangeSpec := { name := "graphNear", fn := fun _ => fun
  | [d1, d2, d3] => { results := [.lit (.bool true)], args := [d1, d2, d3] }
  | _ => none }
def graphNearRow : OpenClaim := { program := "ytgnhhhcelfaliaa", sum := "b755f7fdedb09cddf2a2d5e96137f3658249764ac1073d4c825a91a3915db49a", func := "waywarden/waywardenlaw18.GraphNear", spec := "graphNear", unfollowed := true, recurses := true, apart := false }
def GraphNearSaid : Prop := graphNearRow.holds Try.pinned (OpenSpec.ofChange graphNearSpec)

/-- ITS FALSE NEIGHBOUR: 'it returns false'. Refute it at one input. -/
def graphNearWrong : ChangeSpec := { name := "graphNear", fn := fun _ => fun
  | [d1, d2, d3] => { results := [.lit (.bool false)], args := [d1, d2, d3] }
  | _ => none }
def GraphNearWrongFalsely : Prop := graphNearRow.holds Try.pinned (OpenSpec.ofChange graphNearWrong)

/-- 'waywardenlaw18.GraphHolds': WHATEVER THE INPUT: true; the input reads as it did. -/
def graphHoldsSpec : ChangeSpec := { name := "graphHolds", fn := fun _ => fun
  | [d1, d2, d3, d4] => { results := [.lit (.bool true)], args := [d1, d2, d3, d4] }
  | _ => none }
def graphHoldsRow : OpenClaim := { program := "ytgnhhhcelfaliaa", sum := "b755f7fdedb09cddf2a2d5e96137f3658249764ac1073d4c825a91a3915db49a", func := "waywarden/waywardenlaw18.GraphHolds", spec := "graphHolds", unfollowed := true, recurses := true, apart := false }
def GraphHoldsSaid : Prop := graphHoldsRow.holds Try.pinned (OpenSpec.ofChange graphHoldsSpec)

/-- ITS FALSE NEIGHBOUR: 'it returns false'. Refute it at one input. -/
def graphHoldsWrong : ChangeSpec := { name := "graphHolds", fn := fun _ => fun
  | [d1, d2, d3, d4] => { results := [.lit (.bool false)], args := [d1, d2, d3, d4] }
  | _ => none }
def GraphHoldsWrongFalsely : Prop := graphHoldsRow.holds Try.pinned (OpenSpec.ofChange graphHoldsWrong)

/-- 'waywardenlaw18.GraphChecks': WHATEVER THE INPUT: true; the input reads as it did. -/
def graphChecksSpec : ChangeSpec := { name := "graphChecks", fn := fun _ => fun
  | [d1, d2, d3, d4] => { results := [.lit (.bool true)], args := [d1, d2, d3, d4] }
  | _ => none }
def graphChecksRow : OpenClaim := { program := "ytgnhhhcelfaliaa", sum := "b755f7fdedb09cddf2a2d5e96137f3658249764ac1073d4c825a91a3915db49a", func := "waywarden/waywardenlaw18.GraphChecks", spec := "graphChecks", unfollowed := true, recurses := true, apart := false }
def GraphChecksSaid : Prop := graphChecksRow.holds Try.pinned (OpenSpec.ofChange graphChecksSpec)

/-- ITS FALSE NEIGHBOUR: 'it returns false'. Refute it at one input. -/
def graphChecksWrong : ChangeSpec := { name := "graphChecks", fn := fun _ => fun
  | [d1, d2, d3, d4] => { results := [.lit (.bool false)], args := [d1, d2, d3, d4] }
  | _ => none }
def GraphChecksWrongFalsely : Prop := graphChecksRow.holds Try.pinned (OpenSpec.ofChange graphChecksWrong)

/- THE SECOND FORM. 'bulk': how many values and letters a reading holds, each counted each time it is reached (what is shared counts as often as it is met; a slice's spare places count too). A statement '..UptoSaid' is the law's where the arguments, and the package variables that the reading takes, are together of bulk at most 1048576: NARROWER than '..Said'. Prove '..Said' where nothing that the law and all that it calls make is longer than what came in: it says more and counts as full. Else prove '..UptoSaid'. A law counts once. -/
mutual
def uptoBulk {H : Type} : DataW H → Nat
  | .lit (.string bytes) => bytes.length + 1
  | .lit _ => 1
  | .nil => 1
  | .ptr d => uptoBulk d + 1
  | .slice elems spare => uptoBulkAll elems + uptoBulkAll spare + 1
  | .agg parts => uptoBulkAll parts + 1
  | .iface _ d => uptoBulk d + 1
  | .map entries => uptoBulkEntries entries + 1
  | .held _ => 1
def uptoBulkAll {H : Type} : List (DataW H) → Nat
  | [] => 0
  | d :: r => uptoBulk d + uptoBulkAll r
def uptoBulkEntries {H : Type} : List (Lit × DataW H) → Nat
  | [] => 0
  | x :: r => uptoBulkEntry x + uptoBulkEntries r
def uptoBulkEntry {H : Type} : Lit × DataW H → Nat
  | (.string bytes, d) => bytes.length + uptoBulk d + 1
  | (_, d) => uptoBulk d + 1
 end
def uptoSmall : (H : Type) → List (DataW H) → Bool := fun _ ds => decide (uptoBulkAll ds ≤ 1048576)
def OpenSpec.upto (s : _root_.Go.ChangeSpec) : _root_.Go.OpenSpec := { _root_.Go.OpenSpec.ofChange s with cond := some uptoSmall }

/-- 'waywardenlaw18.GraphFaces', WHERE WHAT IT READS IS OF BULK AT MOST 1048576: true; the input reads as it did. -/
def graphFacesUptoRow : OpenClaim := { program := "ytgnhhhcelfaliaa", sum := "b755f7fdedb09cddf2a2d5e96137f3658249764ac1073d4c825a91a3915db49a", func := "waywarden/waywardenlaw18.GraphFaces", spec := "graphFaces", unfollowed := true, recurses := true, apart := false, narrowed := true }
def GraphFacesUptoSaid : Prop := graphFacesUptoRow.holds Try.pinned (OpenSpec.upto graphFacesSpec)

/-- 'waywardenlaw18.GraphDist', WHERE WHAT IT READS IS OF BULK AT MOST 1048576: true; the input reads as it did. -/
def graphDistUptoRow : OpenClaim := { program := "ytgnhhhcelfaliaa", sum := "b755f7fdedb09cddf2a2d5e96137f3658249764ac1073d4c825a91a3915db49a", func := "waywarden/waywardenlaw18.GraphDist", spec := "graphDist", unfollowed := true, recurses := true, apart := false, narrowed := true }
def GraphDistUptoSaid : Prop := graphDistUptoRow.holds Try.pinned (OpenSpec.upto graphDistSpec)

/-- 'waywardenlaw18.GraphNear', WHERE WHAT IT READS IS OF BULK AT MOST 1048576: true; the input reads as it did. -/
def graphNearUptoRow : OpenClaim := { program := "ytgnhhhcelfaliaa", sum := "b755f7fdedb09cddf2a2d5e96137f3658249764ac1073d4c825a91a3915db49a", func := "waywarden/waywardenlaw18.GraphNear", spec := "graphNear", unfollowed := true, recurses := true, apart := false, narrowed := true }
def GraphNearUptoSaid : Prop := graphNearUptoRow.holds Try.pinned (OpenSpec.upto graphNearSpec)

/-- 'waywardenlaw18.GraphHolds', WHERE WHAT IT READS IS OF BULK AT MOST 1048576: true; the input reads as it did. -/
def graphHoldsUptoRow : OpenClaim := { program := "ytgnhhhcelfaliaa", sum := "b755f7fdedb09cddf2a2d5e96137f3658249764ac1073d4c825a91a3915db49a", func := "waywarden/waywardenlaw18.GraphHolds", spec := "graphHolds", unfollowed := true, recurses := true, apart := false, narrowed := true }
def GraphHoldsUptoSaid : Prop := graphHoldsUptoRow.holds Try.pinned (OpenSpec.upto graphHoldsSpec)

/-- 'waywardenlaw18.GraphChecks', WHERE WHAT IT READS IS OF BULK AT MOST 1048576: true; the input reads as it did. -/
def graphChecksUptoRow : OpenClaim := { program := "ytgnhhhcelfaliaa", sum := "b755f7fdedb09cddf2a2d5e96137f3658249764ac1073d4c825a91a3915db49a", func := "waywarden/waywardenlaw18.GraphChecks", spec := "graphChecks", unfollowed := true, recurses := true, apart := false, narrowed := true }
def GraphChecksUptoSaid : Prop := graphChecksUptoRow.holds Try.pinned (OpenSpec.upto graphChecksSpec)

end Rows
end Go.Proofs.Ytgnhhhcelfaliaa
