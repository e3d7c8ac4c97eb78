/- A graph among a law's arguments, opened to its links. -/
import Derived.Test.YtgnhhhcelfaliaaLaw
import Derived.Test.YtgnhhhcelfaliaaGraphA
namespace Go.Proofs.Ytgnhhhcelfaliaa
open Go.ChangeShapes Go.WideShapes Go.ChangeAt Go.RowKit Go.Joins Go.Deep

section
variable {H : Type} {enc : TypeId × Value → H}
theorem link_of {W : World} (cs : List Value) (n : Nat) (x : DataW H × List MemPlace) (h : DataW.trod enc Try.prog W 0 (fun _ => true) true n 54 cs = some x) : ∃ y : Lk, cs = y.enc ∧ True := by
  obtain ⟨xs, m, _, _, hl, hlen, hf⟩ := DataW.trod_struct Try.underlying54 h
  have hC : Try.prog.cellsOf 54 = 3 := by kernel_rfl
  have hC3 : Try.prog.cellsOf 3 = 1 := by kernel_rfl
  have hC4 : Try.prog.cellsOf 4 = 1 := by kernel_rfl
  rw [hC] at hl
  match cs, hl with
  | [c0, c1, c2], _ =>
    match xs, hlen with
    | [y0, y1, y2], _ =>
      have e0 : DataW.trod enc Try.prog W 0 (fun _ => true) true m 3 [c0] = some y0 := by
        have this : DataW.trod enc Try.prog W 0 (fun _ => true) true m 3 (([c0, c1, c2].drop 0).take (Try.prog.cellsOf 3)) = some y0 := hf 0 _ rfl
        rw [hC3] at this; exact this
      have e1 : DataW.trod enc Try.prog W 0 (fun _ => true) true m 3 [c1] = some y1 := by
        have this : DataW.trod enc Try.prog W 0 (fun _ => true) true m 3 (([c0, c1, c2].drop 1).take (Try.prog.cellsOf 3)) = some y1 := hf 1 _ rfl
        rw [hC3] at this; exact this
      have e2 : DataW.trod enc Try.prog W 0 (fun _ => true) true m 4 [c2] = some y2 := by
        have this : DataW.trod enc Try.prog W 0 (fun _ => true) true m 4 (([c0, c1, c2].drop 2).take (Try.prog.cellsOf 4)) = some y2 := hf 2 _ rfl
        rw [hC4] at this; exact this
      obtain ⟨a, ha, _⟩ := DataW.trod_int Try.underlying3 e0
      obtain ⟨b, hb, _⟩ := DataW.trod_int Try.underlying3 e1
      obtain ⟨u, hu, _⟩ := DataW.trod_bool Try.underlying4 e2
      simp at ha hb hu
      subst ha hb hu
      exact ⟨⟨a, b, u⟩, rfl, trivial⟩

theorem open_graph {W : World} {base : Nat} {v : Value} {d : DataW H} {p : List MemPlace} (hv : Value.okWide Try.prog W .any base 24 v) (h : DataW.Trod enc Try.prog W 0 (fun _ => true) true 24 v d p) :
    ∃ R A c ls, v = .agg #[.int .i64 R, .slice A ls.length c] ∧ Rd W 3 Lk.enc A ls := by
  obtain ⟨c0, c1, y0, y1, n, rfl, _, _, h0, h1⟩ := open_agg2 Try.underlying24 (by kernel_rfl) (by kernel_rfl) hv h
  obtain ⟨R, hR, _⟩ := DataW.trod_int Try.underlying3 h0
  obtain ⟨A, c, ls, hl, _, hrd, _⟩ := rd_of_slice (sz := 3) Lk.enc (fun _ => True) (fun _ => rfl) Try.underlying22 (by kernel_rfl) (by omega) link_of h1
  simp at hR
  subst hR hl
  exact ⟨R, A, c, ls, rfl, hrd⟩
theorem int_of {W : World} (cs : List Value) (n : Nat) (x : DataW H × List MemPlace) (h : DataW.trod enc Try.prog W 0 (fun _ => true) true n 3 cs = some x) : ∃ y : Int, cs = intE y ∧ True := by
  obtain ⟨a, ha, _⟩ := DataW.trod_int Try.underlying3 h
  exact ⟨a, ha, trivial⟩

theorem open_il {W : World} {base : Nat} {v : Value} {d : DataW H} {p : List MemPlace} (hv : Value.okWide Try.prog W .any base 27 v) (h : DataW.Trod enc Try.prog W 0 (fun _ => true) true 27 v d p) : ∃ A c xs, v = .slice A xs.length c ∧ Rd W 1 intE A xs := by
  obtain ⟨a, l, cp, rfl⟩ := okWide_slice Try.underlying27 hv
  obtain ⟨n, h⟩ := h
  obtain ⟨A, c, ls, hl, _, hrd, _⟩ := rd_of_slice (sz := 1) intE (fun _ => True) (fun _ => rfl) Try.underlying27 (by kernel_rfl) (by omega) int_of h
  exact ⟨A, c, ls, hl, hrd⟩
end
end Go.Proofs.Ytgnhhhcelfaliaa
