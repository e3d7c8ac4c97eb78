/- What the listed variable gives the walks. -/
import Derived.Test.YtfaiponmjjbgoaaDoorFbA
import Derived.Test.YtfaiponmjjbgoaaDoorRows
import Derived.ProofKit
import Derived.LaidMore
import Derived.OpenShut
import Derived.Stop.Joined
namespace Go.Proofs.YtfaiponmjjbgoaaDoor
open Go.ChangeShapes Go.WideShapes Go.ChangeAt Go.RowKit

theorem gRels : Tryd.prog.globalNamed "waywarden/prefix.rels" = some 0 := by kernel_rfl
theorem tRels : (Tryd.prog.globals[0]?).map (·.type) = some 140 := by kernel_rfl
def relsLaid : List (String × DataW Unit) := [("waywarden/prefix.rels", Rows.laid_waywarden_prefix_rels)]

theorem rel_one {H : Type} {enc : TypeId × Value → H} {W : World} {base fuel : Nat} {sp : Nat → Bool} {held : Bool} {c : List Value} {p : List MemPlace} {a : Int}
    (h : DataW.trod enc Tryd.prog W base sp held fuel 129 c = some (.lit (.int .i64 a), p)) : c = [.int .i64 a] := by
  obtain ⟨n, e1, e2, _⟩ := DataW.trod_int Tryd.underlying129 h
  simp only [Prod.mk.injEq, DataW.lit.injEq, Lit.int.injEq] at e2
  rw [e1, e2.1.2]
theorem len2 {l : List Value} (h : l.length = 2) : ∃ a b, l = [a, b] := by
  match l, h with
  | [a, b], _ => exact ⟨a, b, rfl⟩
theorem len4 {l : List Value} (h : l.length = 4) : ∃ a b c d, l = [a, b, c, d] := by
  match l, h with
  | [a, b, c, d], _ => exact ⟨a, b, c, d, rfl⟩
set_option maxRecDepth 100000 in
theorem rel_row {H : Type} {enc : TypeId × Value → H} {W : World} {base fuel : Nat} {sp : Nat → Bool} {held : Bool} {c : List Value} {p : List MemPlace} {a b : Int}
    (h : DataW.trod enc Tryd.prog W base sp held fuel 139 c = some (.agg [.lit (.int .i64 a), .lit (.int .i64 b)], p)) : c = [.int .i64 a, .int .i64 b] := by
  obtain ⟨xs, m, rfl, hx, hlen, hn, hel⟩ := DataW.trod_array Tryd.underlying139 h
  have c1 : Tryd.prog.cellsOf 129 = 1 := by kernel_rfl
  have c2 : Tryd.prog.cellsOf 139 = 2 := by kernel_rfl
  rw [c2] at hlen
  rw [c1] at hel
  have h0 := hel 0 (by decide)
  have h1 := hel 1 (by decide)
  match xs, hn, hx, h0, h1 with
  | [(x0, p0), (x1, p1)], _, hx, h0, h1 =>
    simp only [List.map_cons, List.map_nil, Prod.mk.injEq, DataW.agg.injEq, List.cons.injEq, and_true] at hx
    obtain ⟨⟨rfl, rfl⟩, _⟩ := hx
    have e0 := rel_one (show DataW.trod _ Tryd.prog W _ _ _ m _ _ = some (_, p0) from h0)
    have e1 := rel_one (show DataW.trod _ Tryd.prog W _ _ _ m _ _ = some (_, p1) from h1)
    obtain ⟨u, v, rfl⟩ := len2 hlen
    simp at e0 e1
    rw [e0, e1]
set_option maxRecDepth 100000 in
theorem rels_of_laid {W : World} (h : laidMetH Tryd.prog relsLaid W) : RelsAt W := by
  unfold relsLaid at h
  rw [MakeChecks.laidMetH_plain _ _ _ (by kernel_rfl)] at h
  obtain ⟨ps, ⟨g0, t0, cs0, f0, p0, q0, hg0, ht0, hv0, hd0, _, _⟩, _, _⟩ := h
  obtain rfl := Option.some.inj (gRels.symm.trans hg0)
  obtain rfl := Option.some.inj (tRels.symm.trans ht0)
  obtain ⟨xs, m, rfl, hx, hlen, hn, hel⟩ := DataW.trod_array Tryd.underlying140 hd0
  have c2 : Tryd.prog.cellsOf 139 = 2 := by kernel_rfl
  have c4 : Tryd.prog.cellsOf 140 = 4 := by kernel_rfl
  rw [c4] at hlen
  rw [c2] at hel
  have h0 := hel 0 (by decide)
  have h1 := hel 1 (by decide)
  have r0 := World.var?_cell hg0 hv0 0
  have r1 := World.var?_cell hg0 hv0 1
  have r2 := World.var?_cell hg0 hv0 2
  have r3 := World.var?_cell hg0 hv0 3
  match xs, hn, hx, h0, h1 with
  | [(x0, p0), (x1, p1)], _, hx, h0, h1 =>
    simp only [Rows.laid_waywarden_prefix_rels, List.map_cons, List.map_nil, Prod.mk.injEq, DataW.agg.injEq, List.cons.injEq, and_true] at hx
    obtain ⟨⟨rfl, rfl⟩, _⟩ := hx
    have e0 := rel_row (show DataW.trod _ Tryd.prog W _ _ _ m _ _ = some (_, p0) from h0)
    have e1 := rel_row (show DataW.trod _ Tryd.prog W _ _ _ m _ _ = some (_, p1) from h1)
    obtain ⟨l⟩ := cs0
    obtain ⟨a, b, c, d, rfl⟩ := len4 hlen
    simp at e0 e1 r0 r1 r2 r3
    obtain ⟨rfl, rfl⟩ := e0
    obtain ⟨rfl, rfl⟩ := e1
    exact ⟨r0, r1, r2, r3⟩
theorem door_met (os : Os) (args : Array Value) : laidMetH Tryd.prog relsLaid ((World.doorLaid Tryd.prog 400 os).forCall (fun _ _ => 0) ⟨#[], args, []⟩).memory :=
  laidMetH_of_parts3 (fuel := 8) (laidMet_of_run' 8 (by kernel_rfl) (by kernel_rfl)) (by kernel_rfl) (by kernel_rfl)
end Go.Proofs.YtfaiponmjjbgoaaDoor
