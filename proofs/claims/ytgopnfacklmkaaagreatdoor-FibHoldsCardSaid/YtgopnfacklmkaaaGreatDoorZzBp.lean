/- Proved here: THE TIED CARD of FibHolds of the package waywardenlaw13: for every input the law returns true, and each argument reads behind the call as it read before (Rows.FibHoldsCardSaid). Conditions: the listed tables of relations and of bounds start as the program's text lays them, which the card ties. -/
import Derived.Test.YtgopnfacklmkaaaGreatDoorZzBo
import Derived.ChangeArms
import Derived.Test.YtgopnfacklmkaaaGreatDoorTie
import Derived.Test.YtgopnfacklmkaaaGreatDoorCards
import Derived.SevenTiedAt
set_option linter.all false
set_option maxHeartbeats 16000000
namespace Go.Proofs.YtgopnfacklmkaaaGreatDoor
section
open Go.ChangeShapes Go.WideShapes Go.ChangeAt Go.RowKit Go.Joins Go.Deep
theorem lenL2 {α : Type} {l : List α} (h : l.length = 2) : ∃ c0 c1, l = [c0, c1] := by
 match l, h with
 | [c0, c1], _ => exact ⟨c0, c1, rfl⟩
theorem lenL3 {α : Type} {l : List α} (h : l.length = 3) : ∃ c0 c1 c2, l = [c0, c1, c2] := by
 match l, h with
 | [c0, c1, c2], _ => exact ⟨c0, c1, c2, rfl⟩
theorem lenL9 {α : Type} {l : List α} (h : l.length = 9) : ∃ c0 c1 c2 c3 c4 c5 c6 c7 c8, l = [c0, c1, c2, c3, c4, c5, c6, c7, c8] := by
 match l, h with
 | [c0, c1, c2, c3, c4, c5, c6, c7, c8], _ => exact ⟨c0, c1, c2, c3, c4, c5, c6, c7, c8, rfl⟩
theorem vgI {n : Int} (h : (Lit.int .u32 n).wf = true) : ∃ a : Nat, n = (a : Int) ∧ a < 4294967296 := by
 simp [Lit.wf, IntKind.min, IntKind.max, IntKind.bits, IntKind.signed] at h
 exact ⟨n.toNat, by omega, by omega⟩
theorem lenL4 {α : Type} {l : List α} (h : l.length = 4) : ∃ c0 c1 c2 c3, l = [c0, c1, c2, c3] := by
 match l, h with
 | [c0, c1, c2, c3], _ => exact ⟨c0, c1, c2, c3, rfl⟩
theorem lenL7 {α : Type} {l : List α} (h : l.length = 7) : ∃ c0 c1 c2 c3 c4 c5 c6, l = [c0, c1, c2, c3, c4, c5, c6] := by
 match l, h with
 | [c0, c1, c2, c3, c4, c5, c6], _ => exact ⟨c0, c1, c2, c3, c4, c5, c6, rfl⟩
def I64 (n : Int) : Prop := -9223372036854775808 ≤ n ∧ n ≤ 9223372036854775807
theorem vgJ {n : Int} (h : (Lit.int .i64 n).wf = true) : I64 n := by
 simp [Lit.wf, IntKind.min, IntKind.max, IntKind.bits, IntKind.signed] at h
 exact ⟨by omega, by omega⟩
section
variable {H : Type} {enc : TypeId × Value → H}
set_option maxRecDepth 100000 in
theorem vnh {W : World} {base : Nat} {sp : Nat → Bool} {held : Bool} (cs : List Value) (n : Nat) (x : DataW H × List MemPlace) (h : DataW.trod enc Tryz.prog W base sp held n 39 cs = some x) : ∃ p : PI, cs = [.int .u32 (p.a : Int), .int .i64 p.l] ∧ p.a < 4294967296 ∧ I64 p.l := by
 obtain ⟨xs, m, _, _, hl, hlen, hf⟩ := DataW.trod_struct Tryz.underlying39 h
 have hC : Tryz.prog.cellsOf 39 = 2 := by kernel_rfl
 have hC0 : Tryz.prog.cellsOf 37 = 1 := by kernel_rfl
 have hC1 : Tryz.prog.cellsOf 3 = 1 := by kernel_rfl
 rw [hC] at hl
 obtain ⟨c0, c1, rfl⟩ := lenL2 hl
 obtain ⟨y0, y1, rfl⟩ := lenL2 hlen
 clear hl hlen hC h
 have e0 : DataW.trod enc Tryz.prog W base sp held m 37 [c0] = some y0 := by
  have this : DataW.trod enc Tryz.prog W base sp held m 37 (([c0, c1].drop 0).take (Tryz.prog.cellsOf 37)) = some y0 := hf 0 _ rfl
  rw [hC0] at this; exact this
 have e1 : DataW.trod enc Tryz.prog W base sp held m 3 [c1] = some y1 := by
  have this : DataW.trod enc Tryz.prog W base sp held m 3 (([c0, c1].drop 1).take (Tryz.prog.cellsOf 3)) = some y1 := hf 1 _ rfl
  rw [hC1] at this; exact this
 clear hf
 obtain ⟨a, ha, _, hw⟩ := DataW.trod_int Tryz.underlying37 e0
 obtain ⟨b, hb, _, hw1⟩ := DataW.trod_int Tryz.underlying3 e1
 simp only [List.cons.injEq, and_true] at ha hb
 subst ha hb
 obtain ⟨a, rfl, hlt⟩ := vgI hw
 exact ⟨⟨a, b⟩, rfl, hlt, vgJ hw1⟩
set_option maxRecDepth 100000 in
theorem vmT {W : World} {base : Nat} {sp : Nat → Bool} {held : Bool} (cs : List Value) (n : Nat) (x : DataW H × List MemPlace) (h : DataW.trod enc Tryz.prog W base sp held n 57 cs = some x) : ∃ h : Hd, cs = [.int .i64 h.f, .int .u32 (h.a : Int), .int .i64 h.m] ∧ h.a < 4294967296 ∧ I64 h.f ∧ I64 h.m := by
 obtain ⟨xs, m, _, _, hl, hlen, hf⟩ := DataW.trod_struct Tryz.underlying57 h
 have hC : Tryz.prog.cellsOf 57 = 3 := by kernel_rfl
 have hC0 : Tryz.prog.cellsOf 3 = 1 := by kernel_rfl
 have hC1 : Tryz.prog.cellsOf 37 = 1 := by kernel_rfl
 rw [hC] at hl
 obtain ⟨c0, c1, c2, rfl⟩ := lenL3 hl
 obtain ⟨y0, y1, y2, rfl⟩ := lenL3 hlen
 clear hl hlen hC h
 have e0 : DataW.trod enc Tryz.prog W base sp held m 3 [c0] = some y0 := by
  have this : DataW.trod enc Tryz.prog W base sp held m 3 (([c0, c1, c2].drop 0).take (Tryz.prog.cellsOf 3)) = some y0 := hf 0 _ rfl
  rw [hC0] at this; exact this
 have e1 : DataW.trod enc Tryz.prog W base sp held m 37 [c1] = some y1 := by
  have this : DataW.trod enc Tryz.prog W base sp held m 37 (([c0, c1, c2].drop 1).take (Tryz.prog.cellsOf 37)) = some y1 := hf 1 _ rfl
  rw [hC1] at this; exact this
 have e2 : DataW.trod enc Tryz.prog W base sp held m 3 [c2] = some y2 := by
  have this : DataW.trod enc Tryz.prog W base sp held m 3 (([c0, c1, c2].drop 2).take (Tryz.prog.cellsOf 3)) = some y2 := hf 2 _ rfl
  rw [hC0] at this; exact this
 clear hf
 obtain ⟨f, hf, _, w0⟩ := DataW.trod_int Tryz.underlying3 e0
 obtain ⟨a, ha, _, w1⟩ := DataW.trod_int Tryz.underlying37 e1
 obtain ⟨m, hm, _, w2⟩ := DataW.trod_int Tryz.underlying3 e2
 simp only [List.cons.injEq, and_true] at hf ha hm
 subst hf ha hm
 obtain ⟨a, rfl, hlt⟩ := vgI w1
 exact ⟨⟨f, a, m⟩, rfl, hlt, vgJ w0, vgJ w2⟩
set_option maxRecDepth 100000 in
theorem fa_of {W : World} {base : Nat} {sp : Nat → Bool} {held : Bool} (cs : List Value) (n : Nat) (x : DataW H × List MemPlace) (h : DataW.trod enc Tryz.prog W base sp held n 76 cs = some x) : ∃ x : Fa, cs = x.enc ∧ x.fits := by
 obtain ⟨xs, m, _, _, hl, hlen, hf⟩ := DataW.trod_struct Tryz.underlying76 h
 have hC : Tryz.prog.cellsOf 76 = 7 := by kernel_rfl
 have hC0 : Tryz.prog.cellsOf 3 = 1 := by kernel_rfl
 have hC1 : Tryz.prog.cellsOf 39 = 2 := by kernel_rfl
 have hC2 : Tryz.prog.cellsOf 57 = 3 := by kernel_rfl
 have hC3 : Tryz.prog.cellsOf 2 = 1 := by kernel_rfl
 rw [hC] at hl
 obtain ⟨c0, c1, c2, c3, c4, c5, c6, rfl⟩ := lenL7 hl
 obtain ⟨y0, y1, y2, y3, rfl⟩ := lenL4 hlen
 clear hl hlen hC h
 have e0 : DataW.trod enc Tryz.prog W base sp held m 3 [c0] = some y0 := by
  have this : DataW.trod enc Tryz.prog W base sp held m 3 (([c0, c1, c2, c3, c4, c5, c6].drop 0).take (Tryz.prog.cellsOf 3)) = some y0 := hf 0 _ rfl
  rw [hC0] at this; exact this
 have e1 : DataW.trod enc Tryz.prog W base sp held m 39 [c1, c2] = some y1 := by
  have this : DataW.trod enc Tryz.prog W base sp held m 39 (([c0, c1, c2, c3, c4, c5, c6].drop 1).take (Tryz.prog.cellsOf 39)) = some y1 := hf 1 _ rfl
  rw [hC1] at this; exact this
 have e2 : DataW.trod enc Tryz.prog W base sp held m 57 [c3, c4, c5] = some y2 := by
  have this : DataW.trod enc Tryz.prog W base sp held m 57 (([c0, c1, c2, c3, c4, c5, c6].drop 3).take (Tryz.prog.cellsOf 57)) = some y2 := hf 2 _ rfl
  rw [hC2] at this; exact this
 have e3 : DataW.trod enc Tryz.prog W base sp held m 2 [c6] = some y3 := by
  have this : DataW.trod enc Tryz.prog W base sp held m 2 (([c0, c1, c2, c3, c4, c5, c6].drop 6).take (Tryz.prog.cellsOf 2)) = some y3 := hf 3 _ rfl
  rw [hC3] at this; exact this
 clear hf
 obtain ⟨wh, hw, _, w0⟩ := DataW.trod_int Tryz.underlying3 e0
 obtain ⟨p, hp, wp, wl⟩ := vnh _ _ _ e1
 obtain ⟨hd, hh, wa, _, _⟩ := vmT _ _ _ e2
 obtain ⟨mo, hmo, _, w4⟩ := DataW.trod_int Tryz.underlying2 e3
 clear e0 e1 e2 e3
 simp only [List.cons.injEq, and_true] at hw hp hh hmo
 obtain ⟨rfl, rfl⟩ := hp
 obtain ⟨rfl, rfl, rfl⟩ := hh
 subst hw hmo
 exact ⟨⟨wh, p, hd, mo⟩, rfl, ⟨⟨wp, wl.1, wl.2⟩, wa⟩⟩
set_option maxRecDepth 100000 in
theorem vmU {W : World} {base : Nat} {v : Value} {d : DataW H} {p : List MemPlace} (hv : Value.okWide Tryz.prog W .any base 69 v) (h : DataW.Trod enc Tryz.prog W 0 (fun _ => true) true 69 v d p) : ∃ A c ls, v = .slice A ls.length c ∧ Rd W 7 Fa.enc A ls ∧ ∀ x ∈ ls, x.fits := by
 obtain ⟨a, l, cp, rfl⟩ := okWide_slice Tryz.underlying69 hv
 obtain ⟨n, h⟩ := h
 obtain ⟨A, c, ls, hl, _, hrd, hg⟩ := vck (sz := 7) Fa.enc Fa.fits (fun _ => rfl) Tryz.underlying69 (by kernel_rfl) (by omega) (fun cs n x h => by
  obtain ⟨y, hy, hf⟩ := fa_of cs n x h
  exact ⟨y, hy, hf⟩) h
 exact ⟨A, c, ls, hl, hrd, hg⟩
set_option maxRecDepth 100000 in
theorem vmV {W : World} {base : Nat} {v : Value} {d : DataW H} {p : List MemPlace} (hv : Value.okWide Tryz.prog W .any base 70 v) (h : DataW.Trod enc Tryz.prog W 0 (fun _ => true) true 70 v d p) : ∃ A c ls, v = .slice A ls.length c ∧ Rd W 1 adE A ls ∧ ∀ a ∈ ls, a < 4294967296 := by
 obtain ⟨a, l, cp, rfl⟩ := okWide_slice Tryz.underlying70 hv
 obtain ⟨n, h⟩ := h
 obtain ⟨A, c, ls, hl, _, hrd, hg⟩ := vck (sz := 1) adE (fun a => a < 4294967296) (fun _ => rfl) Tryz.underlying70 (by kernel_rfl) (by omega) (fun cs n x h => by
  obtain ⟨t, ht, _, w0⟩ := DataW.trod_int Tryz.underlying37 h
  obtain ⟨k, rfl, hk⟩ := vgI w0
  exact ⟨k, ht, hk⟩) h
 exact ⟨A, c, ls, hl, hrd, hg⟩
theorem vgd {α : Type} {W : World} {fuel : Nat} {v : Value} {x : DataW H × List MemPlace} {t e sz : Nat} (enc' : α → List Value) (good : α → Prop) (henc : ∀ y, (enc' y).length = sz) (ht : Tryz.prog.underlying t = some (.slice e)) (hsz : Tryz.prog.cellsOf e = sz) (hs0 : 0 < sz)
  (hel : ∀ (cs : List Value) (n : Nat) (x : DataW H × List MemPlace), DataW.trod enc Tryz.prog W 0 (fun _ => true) true n e cs = some x → ∃ y, cs = enc' y ∧ good y)
  (h : DataW.trod enc Tryz.prog W 0 (fun _ => true) true fuel t [v] = some x) : ∃ A c ys, v = .slice A ys.length c ∧ ys.length ≤ c ∧ (A = none → ys = [] ∧ c = 0) ∧ Rd W sz enc' A ys ∧ ∀ y ∈ ys, good y := by
 obtain ⟨A, c, ys, rfl, _, hrd, hg⟩ := vck enc' good henc ht hsz hs0 hel h
 rcases DataW.trod_slice ht h with ⟨hc, _⟩ | ⟨a, len, cap, elems, rest, n, _, hc, _, _, hl, _⟩
 ·simp only [List.cons.injEq, and_true, Value.slice.injEq] at hc
  obtain ⟨h1, h2, h3⟩ := hc
  exact ⟨A, c, ys, rfl, by omega, fun _ => ⟨List.eq_nil_of_length_eq_zero h2, h3⟩, hrd, hg⟩
 ·simp only [List.cons.injEq, and_true, Value.slice.injEq] at hc
  obtain ⟨h1, h2, h3⟩ := hc
  exact ⟨A, c, ys, rfl, by omega, (fun z => by rw [z] at h1; cases h1), hrd, hg⟩
set_option maxRecDepth 100000 in
theorem vli {W : World} (cs : List Value) (n : Nat) (x : DataW H × List MemPlace) (h : DataW.trod enc Tryz.prog W 0 (fun _ => true) true n 49 cs = some x) : ∃ (c : Cf) (A : Option Addr) (m : Nat), cs = (cfC c A c.own.length m).toList ∧ SlPI W A m c.own ∧ ∀ p ∈ c.own, p.a < 4294967296 := by
 obtain ⟨xs, m, _, _, hl, hlen, hf⟩ := DataW.trod_struct Tryz.underlying49 h
 have hC : Tryz.prog.cellsOf 49 = 9 := by kernel_rfl
 have hC0 : Tryz.prog.cellsOf 2 = 1 := by kernel_rfl
 have hC1 : Tryz.prog.cellsOf 3 = 1 := by kernel_rfl
 have hC2 : Tryz.prog.cellsOf 47 = 1 := by kernel_rfl
 rw [hC] at hl
 obtain ⟨c0, c1, c2, c3, c4, c5, c6, c7, c8, rfl⟩ := lenL9 hl
 obtain ⟨y0, y1, y2, y3, y4, y5, y6, y7, y8, rfl⟩ := lenL9 hlen
 clear hl hlen hC h
 have e0 : DataW.trod enc Tryz.prog W 0 (fun _ => true) true m 2 [c0] = some y0 := by
  have this : DataW.trod enc Tryz.prog W 0 (fun _ => true) true m 2 (([c0, c1, c2, c3, c4, c5, c6, c7, c8].drop 0).take (Tryz.prog.cellsOf 2)) = some y0 := hf 0 _ rfl
  rw [hC0] at this; exact this
 have e1 : DataW.trod enc Tryz.prog W 0 (fun _ => true) true m 2 [c1] = some y1 := by
  have this : DataW.trod enc Tryz.prog W 0 (fun _ => true) true m 2 (([c0, c1, c2, c3, c4, c5, c6, c7, c8].drop 1).take (Tryz.prog.cellsOf 2)) = some y1 := hf 1 _ rfl
  rw [hC0] at this; exact this
 have e2 : DataW.trod enc Tryz.prog W 0 (fun _ => true) true m 2 [c2] = some y2 := by
  have this : DataW.trod enc Tryz.prog W 0 (fun _ => true) true m 2 (([c0, c1, c2, c3, c4, c5, c6, c7, c8].drop 2).take (Tryz.prog.cellsOf 2)) = some y2 := hf 2 _ rfl
  rw [hC0] at this; exact this
 have e3 : DataW.trod enc Tryz.prog W 0 (fun _ => true) true m 2 [c3] = some y3 := by
  have this : DataW.trod enc Tryz.prog W 0 (fun _ => true) true m 2 (([c0, c1, c2, c3, c4, c5, c6, c7, c8].drop 3).take (Tryz.prog.cellsOf 2)) = some y3 := hf 3 _ rfl
  rw [hC0] at this; exact this
 have e4 : DataW.trod enc Tryz.prog W 0 (fun _ => true) true m 2 [c4] = some y4 := by
  have this : DataW.trod enc Tryz.prog W 0 (fun _ => true) true m 2 (([c0, c1, c2, c3, c4, c5, c6, c7, c8].drop 4).take (Tryz.prog.cellsOf 2)) = some y4 := hf 4 _ rfl
  rw [hC0] at this; exact this
 have e5 : DataW.trod enc Tryz.prog W 0 (fun _ => true) true m 2 [c5] = some y5 := by
  have this : DataW.trod enc Tryz.prog W 0 (fun _ => true) true m 2 (([c0, c1, c2, c3, c4, c5, c6, c7, c8].drop 5).take (Tryz.prog.cellsOf 2)) = some y5 := hf 5 _ rfl
  rw [hC0] at this; exact this
 have e6 : DataW.trod enc Tryz.prog W 0 (fun _ => true) true m 2 [c6] = some y6 := by
  have this : DataW.trod enc Tryz.prog W 0 (fun _ => true) true m 2 (([c0, c1, c2, c3, c4, c5, c6, c7, c8].drop 6).take (Tryz.prog.cellsOf 2)) = some y6 := hf 6 _ rfl
  rw [hC0] at this; exact this
 have e7 : DataW.trod enc Tryz.prog W 0 (fun _ => true) true m 3 [c7] = some y7 := by
  have this : DataW.trod enc Tryz.prog W 0 (fun _ => true) true m 3 (([c0, c1, c2, c3, c4, c5, c6, c7, c8].drop 7).take (Tryz.prog.cellsOf 3)) = some y7 := hf 7 _ rfl
  rw [hC1] at this; exact this
 have e8 : DataW.trod enc Tryz.prog W 0 (fun _ => true) true m 47 [c8] = some y8 := by
  have this : DataW.trod enc Tryz.prog W 0 (fun _ => true) true m 47 (([c0, c1, c2, c3, c4, c5, c6, c7, c8].drop 8).take (Tryz.prog.cellsOf 47)) = some y8 := hf 8 _ rfl
  rw [hC2] at this; exact this
 clear hf
 obtain ⟨t0, h0, _, _⟩ := DataW.trod_int Tryz.underlying2 e0
 obtain ⟨t1, h1, _, _⟩ := DataW.trod_int Tryz.underlying2 e1
 obtain ⟨t2, h2, _, _⟩ := DataW.trod_int Tryz.underlying2 e2
 obtain ⟨t3, h3, _, _⟩ := DataW.trod_int Tryz.underlying2 e3
 obtain ⟨t4, h4, _, _⟩ := DataW.trod_int Tryz.underlying2 e4
 obtain ⟨t5, h5, _, _⟩ := DataW.trod_int Tryz.underlying2 e5
 obtain ⟨t6, h6, _, _⟩ := DataW.trod_int Tryz.underlying2 e6
 obtain ⟨t7, h7, _, _⟩ := DataW.trod_int Tryz.underlying3 e7
 obtain ⟨A, k, ps, h8, hle, hnil, hrd, hg⟩ := vgd (sz := 2) PI.enc (fun p => p.a < 4294967296) (fun _ => rfl) Tryz.underlying47 (by kernel_rfl) (by omega) (fun cs n x h => by
  obtain ⟨p, hp, ha, _⟩ := vnh cs n x h
  exact ⟨p, hp, ha⟩) e8
 clear e0 e1 e2 e3 e4 e5 e6 e7 e8
 simp only [List.cons.injEq, and_true] at h0 h1 h2 h3 h4 h5 h6 h7
 subst h0 h1 h2 h3 h4 h5 h6 h7 h8
 exact ⟨⟨t0, t1, t2, t3, t4, t5, t6, t7, ps⟩, A, k, rfl, ⟨hrd, hle, hnil⟩, hg⟩
set_option maxRecDepth 100000 in
theorem vgK {W : World} {base : Nat} {v : Value} {d : DataW H} {p : List MemPlace} (hv : Value.okWide Tryz.prog W .any base 49 v) (h : DataW.Trod enc Tryz.prog W 0 (fun _ => true) true 49 v d p) : ∃ (c : Cf) (A : Option Addr) (m : Nat), v = cfV c A c.own.length m ∧ SlPI W A m c.own ∧ ∀ k (hk : k < c.own.length), c.own[k].a < 4294967296 := by
 obtain ⟨cs, rfl, hsz⟩ := okWide_struct Tryz.underlying49 hv
 obtain ⟨fuel, hf⟩ := h
 obtain ⟨c, A, m, hx, hS, hfit⟩ := vli _ _ _ hf
 refine ⟨c, A, m, ?_, hS, fun k hk => hfit _ (List.getElem_mem hk)⟩
 have : cs = cfC c A c.own.length m := by
  apply Array.ext'
  simpa [Value.cells] using hx
 rw [this]
 rfl
end
end

section
open Go Go.ChangeShapes Go.WideShapes Go.ChangeAt Go.RowKit Go.Joins Go.Deep
set_option maxRecDepth 100000 in
theorem vec (os : Os) (started : os.Started) (H : Type) (enc : TypeId × Value → H) :
  ReturnsInHanded {} Tryz.checked os 6 .any (fun w args => (Rows.fibHoldsSpec.pre enc Tryz.prog Tryz.f6 [] false w args ∧ laidMetH Tryz.prog fhLaid w) ∧ sizedMet enc Tryz.prog Tryz.f6 (OpenSpec.ofChange Rows.fibHoldsSpec) false w args)
   (Rows.fibHoldsSpec.post enc Tryz.prog Tryz.f6 false true false false) := by
 refine returnsInHanded_of_change_and (C := Tryz.checked) (X := fun w _ => laidMetH Tryz.prog fhLaid w) (fun _ _ _ hh h => h.of_heap hh) Tryz.own started (by kernel_rfl) Tryz.func6
  (ChangeSpec.witness_shaped (enc := enc) (C := Tryz.checked) (os := os) (X := fun w _ => laidMetH Tryz.prog fhLaid w) false (World.doorLaid Tryz.prog 400 os) #[.agg #[.int .i64 0, .int .i64 0, .int .i64 0, .int .i64 0, .int .i64 0, .int .i64 0, .int .i64 0, .int .i64 0, .slice none 0 0], .slice none 0 0, .slice none 0 0] 8 rfl (World.shaped_of_RefB (by kernel_rfl) (by kernel_rfl)) (by kernel_rfl) (by kernel_rfl) (by kernel_rfl) (vov os _)) ?_
 intro W base args ds gs before hval0 hW _ _ hL _
 have hval : ∀ (j : Nat) t v, Tryz.f6.params[j]? = some t → args[j]? = some v → Value.okWide Tryz.prog W .any base t v := hval0
 have hW' := hW
 obtain ⟨p, q, hA0, hV, rfl, hfz, hnd⟩ := hW
 have hA : DataW.TrodAll enc Tryz.prog W 0 (fun _ => true) true Tryz.f6.params.toList args.toList ds p := hA0
 rw [Tryz.params6] at hA hval
 obtain ⟨v0, v1, v2, _, _, _, _, _, _, rfl, rfl, rfl, h0, h1, h2⟩ := trodAll_three hA
 obtain ⟨rfl, rfl⟩ := trodVars_none hV
 obtain ⟨c, A, m, rfl, hS, hw⟩ := vgK (hval 0 _ v0 rfl rfl) h0
 obtain ⟨A2, m2, l, rfl, hR, hx⟩ := vmU (hval 1 _ v1 rfl rfl) h1
 obtain ⟨A3, m3, tl, rfl, hQ, ha⟩ := vmV (hval 2 _ v2 rfl rfl) h2
 clear hA0 hval0
 refine (vgc c A A2 A3 m m2 m3 l tl W hS hw hR hx hQ ha (veB hL).2 (veB hL).1).mono fun e W' ⟨he, hK⟩ => ?_
 subst he
 refine ⟨_, rfl, vmL hW' rfl rfl rfl rfl rfl ?_ hK⟩
 intro t ht
 rw [Tryz.params6] at ht
 simp only [List.mem_cons, List.not_mem_nil, or_false] at ht
 rcases ht with rfl | rfl | rfl <;> exact ⟨by kernel_rfl, of_decide_eq_true (by kernel_rfl)⟩
set_option maxRecDepth 100000 in
theorem ved : joinedFacts Tryz.prog 6 Tryz.f6 Rows.fibHoldsSpec Rows.fibHoldsRow = true := by
 unfold joinedFacts
 simp only [Bool.and_eq_true]
 repeat' refine And.intro ?_ ?_
 all_goals as_aux_lemma => kernel_rfl
theorem vei : Rows.FibHoldsSaid :=
 OpenClaim.holds_of_wide 6 Tryz.f6 rfl rfl rfl rfl rfl rfl rfl ⟨rfl, rfl, rfl, rfl, rfl⟩ rfl rfl rfl rfl rfl (by kernel_rfl) Tryz.func6 ved
  (of_decide_eq_true (by kernel_rfl)) (by unfold Func.isWrapper; first | (rw [if_pos (by decide +kernel)]; kernel_rfl) | (rw [if_neg (by decide +kernel)]; exact ⟨rfl, rfl⟩))
  (fun os started H enc _ => vec os started H enc)
theorem fibHolds_card_holds : Rows.FibHoldsCardSaid :=
 Claim7.holds_tied_plain_at .later [] [.data, .data] true (true, "c35284451049d566b3a081529b1b659d2ce9466078bb6e9d13e885aa30dfdeb3") true
  vei (fun _ h => by cases h) (by kernel_rfl) (fun _ h => by cases h) fibHolds_row_tie rfl ⟨rfl, rfl⟩ (by kernel_rfl) rfl
  (fun f fn hf hfn => by
   obtain rfl : f = 6 := Option.some.inj ((show Tryz.prog.funcNamed "waywarden/waywardenlaw13.FibHolds" = some 6 by kernel_rfl).symm.trans hf) |>.symm
   obtain rfl : fn = Tryz.f6 := (Option.some.inj (Tryz.func6.symm.trans hfn)).symm
   exact ⟨by kernel_rfl, fun j t ht => by
    rw [Tryz.params6] at ht
    have hm : t ∈ [49, 69, 70] := by simpa using Array.mem_of_getElem? ht
    have hall : ([49, 69, 70].all fun u => !Tryz.prog.wantsStandIn u) = true := by kernel_rfl
    exact (show Tryz.prog.wantsStandIn t = false by simpa using List.all_eq_true.1 hall t hm)⟩)
  (by kernel_rfl)
end

end Go.Proofs.YtgopnfacklmkaaaGreatDoor
