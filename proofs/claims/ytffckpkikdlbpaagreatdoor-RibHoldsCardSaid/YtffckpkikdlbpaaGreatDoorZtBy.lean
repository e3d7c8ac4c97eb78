/- Proved here: THE TIED CARD of RibHolds of the package waywardenlaw12: for every input the law returns true, and each argument reads behind the call as it read before (Rows.RibHoldsCardSaid). Conditions: the two listed tables of bounds start as the program's text lays them, which the card ties. -/
import Derived.Test.YtffckpkikdlbpaaGreatDoorZtBx
import Derived.Test.YtffckpkikdlbpaaGreatDoorRows
import Derived.ProofKit
import Derived.LaidMore
import Derived.OpenShut
import Derived.Stop.Joined
import Derived.Test.YtffckpkikdlbpaaGreatDoorTie
import Derived.Test.YtffckpkikdlbpaaGreatDoorCards
import Derived.SevenTiedAt
set_option linter.unusedSimpArgs false
set_option linter.unusedVariables false
namespace Go.Proofs.YtffckpkikdlbpaaGreatDoor
open Go.ChangeShapes Go.WideShapes Go.ChangeAt Go.RowKit Go.Joins Go.Deep
section
variable {H : Type} {enc : TypeId × Value → H}
theorem rd_of_slice2 {α : Type} {W : World} {fuel : Nat} {v : Value} {x : DataW H × List MemPlace} {t e sz : Nat} (enc' : α → List Value) (good : α → Prop) (henc : ∀ y, (enc' y).length = sz) (ht : Tryz.prog.underlying t = some (.slice e)) (hsz : Tryz.prog.cellsOf e = sz) (hs0 : 0 < sz)
    (hel : ∀ (cs : List Value) (n : Nat) (x : DataW H × List MemPlace), DataW.trod enc Tryz.prog W 0 (fun _ => true) true n e cs = some x → ∃ y, cs = enc' y ∧ good y)
    (h : DataW.trod enc Tryz.prog W 0 (fun _ => true) true fuel t [v] = some x) : ∃ A c ys, v = .slice A ys.length c ∧ ys.length ≤ c ∧ (A = none → ys = [] ∧ c = 0) ∧ Rd W sz enc' A ys ∧ ∀ y ∈ ys, good y := by
  obtain ⟨A, c, ys, rfl, _, hrd, hg⟩ := rd_of_slice enc' good henc ht hsz hs0 hel h
  rcases DataW.trod_slice ht h with ⟨hc, _⟩ | ⟨a, len, cap, elems, rest, n, _, hc, _, _, hl, _⟩
  · simp only [List.cons.injEq, and_true, Value.slice.injEq] at hc
    obtain ⟨h1, h2, h3⟩ := hc
    exact ⟨A, c, ys, rfl, by omega, fun _ => ⟨List.eq_nil_of_length_eq_zero h2, h3⟩, hrd, hg⟩
  · simp only [List.cons.injEq, and_true, Value.slice.injEq] at hc
    obtain ⟨h1, h2, h3⟩ := hc
    exact ⟨A, c, ys, rfl, by omega, (fun z => by rw [z] at h1; cases h1), hrd, hg⟩
set_option maxRecDepth 100000 in
theorem config_of {W : World} (cs : List Value) (n : Nat) (x : DataW H × List MemPlace) (h : DataW.trod enc Tryz.prog W 0 (fun _ => true) true n 24 cs = some x) : ∃ (c : Cf) (A : Option Addr) (m : Nat), cs = (cfC c A c.own.length m).toList ∧ SlPI W A m c.own ∧ ∀ p ∈ c.own, p.a < 4294967296 := by
  obtain ⟨xs, m, _, _, hl, hlen, hf⟩ := DataW.trod_struct Tryz.underlying24 h
  have hC : Tryz.prog.cellsOf 24 = 9 := by kernel_rfl
  have hC0 : Tryz.prog.cellsOf 2 = 1 := by kernel_rfl
  have hC1 : Tryz.prog.cellsOf 3 = 1 := by kernel_rfl
  have hC2 : Tryz.prog.cellsOf 22 = 1 := by kernel_rfl
  rw [hC] at hl
  obtain ⟨c0, c1, c2, c3, c4, c5, c6, c7, c8, rfl⟩ := lenL9 hl
  obtain ⟨y0, y1, y2, y3, y4, y5, y6, y7, y8, rfl⟩ := lenL9 hlen
  clear hl hlen hC h
  have e0 : DataW.trod enc Tryz.prog W 0 (fun _ => true) true m 2 [c0] = some y0 := by
    have this : DataW.trod enc Tryz.prog W 0 (fun _ => true) true m 2 (([c0, c1, c2, c3, c4, c5, c6, c7, c8].drop 0).take (Tryz.prog.cellsOf 2)) = some y0 := hf 0 _ rfl
    rw [hC0] at this; exact this
  have e1 : DataW.trod enc Tryz.prog W 0 (fun _ => true) true m 2 [c1] = some y1 := by
    have this : DataW.trod enc Tryz.prog W 0 (fun _ => true) true m 2 (([c0, c1, c2, c3, c4, c5, c6, c7, c8].drop 1).take (Tryz.prog.cellsOf 2)) = some y1 := hf 1 _ rfl
    rw [hC0] at this; exact this
  have e2 : DataW.trod enc Tryz.prog W 0 (fun _ => true) true m 2 [c2] = some y2 := by
    have this : DataW.trod enc Tryz.prog W 0 (fun _ => true) true m 2 (([c0, c1, c2, c3, c4, c5, c6, c7, c8].drop 2).take (Tryz.prog.cellsOf 2)) = some y2 := hf 2 _ rfl
    rw [hC0] at this; exact this
  have e3 : DataW.trod enc Tryz.prog W 0 (fun _ => true) true m 2 [c3] = some y3 := by
    have this : DataW.trod enc Tryz.prog W 0 (fun _ => true) true m 2 (([c0, c1, c2, c3, c4, c5, c6, c7, c8].drop 3).take (Tryz.prog.cellsOf 2)) = some y3 := hf 3 _ rfl
    rw [hC0] at this; exact this
  have e4 : DataW.trod enc Tryz.prog W 0 (fun _ => true) true m 2 [c4] = some y4 := by
    have this : DataW.trod enc Tryz.prog W 0 (fun _ => true) true m 2 (([c0, c1, c2, c3, c4, c5, c6, c7, c8].drop 4).take (Tryz.prog.cellsOf 2)) = some y4 := hf 4 _ rfl
    rw [hC0] at this; exact this
  have e5 : DataW.trod enc Tryz.prog W 0 (fun _ => true) true m 2 [c5] = some y5 := by
    have this : DataW.trod enc Tryz.prog W 0 (fun _ => true) true m 2 (([c0, c1, c2, c3, c4, c5, c6, c7, c8].drop 5).take (Tryz.prog.cellsOf 2)) = some y5 := hf 5 _ rfl
    rw [hC0] at this; exact this
  have e6 : DataW.trod enc Tryz.prog W 0 (fun _ => true) true m 2 [c6] = some y6 := by
    have this : DataW.trod enc Tryz.prog W 0 (fun _ => true) true m 2 (([c0, c1, c2, c3, c4, c5, c6, c7, c8].drop 6).take (Tryz.prog.cellsOf 2)) = some y6 := hf 6 _ rfl
    rw [hC0] at this; exact this
  have e7 : DataW.trod enc Tryz.prog W 0 (fun _ => true) true m 3 [c7] = some y7 := by
    have this : DataW.trod enc Tryz.prog W 0 (fun _ => true) true m 3 (([c0, c1, c2, c3, c4, c5, c6, c7, c8].drop 7).take (Tryz.prog.cellsOf 3)) = some y7 := hf 7 _ rfl
    rw [hC1] at this; exact this
  have e8 : DataW.trod enc Tryz.prog W 0 (fun _ => true) true m 22 [c8] = some y8 := by
    have this : DataW.trod enc Tryz.prog W 0 (fun _ => true) true m 22 (([c0, c1, c2, c3, c4, c5, c6, c7, c8].drop 8).take (Tryz.prog.cellsOf 22)) = some y8 := hf 8 _ rfl
    rw [hC2] at this; exact this
  clear hf
  obtain ⟨t0, h0, _, _⟩ := DataW.trod_int Tryz.underlying2 e0
  obtain ⟨t1, h1, _, _⟩ := DataW.trod_int Tryz.underlying2 e1
  obtain ⟨t2, h2, _, _⟩ := DataW.trod_int Tryz.underlying2 e2
  obtain ⟨t3, h3, _, _⟩ := DataW.trod_int Tryz.underlying2 e3
  obtain ⟨t4, h4, _, _⟩ := DataW.trod_int Tryz.underlying2 e4
  obtain ⟨t5, h5, _, _⟩ := DataW.trod_int Tryz.underlying2 e5
  obtain ⟨t6, h6, _, _⟩ := DataW.trod_int Tryz.underlying2 e6
  obtain ⟨t7, h7, _, _⟩ := DataW.trod_int Tryz.underlying3 e7
  obtain ⟨A, k, ps, h8, hle, hnil, hrd, hg⟩ := rd_of_slice2 (sz := 2) PI.enc (fun p => p.a < 4294967296) (fun _ => rfl) Tryz.underlying22 (by kernel_rfl) (by omega) (fun cs n x h => by
    obtain ⟨p, hp, ha, _⟩ := pfx_of cs n x h
    exact ⟨p, hp, ha⟩) e8
  clear e0 e1 e2 e3 e4 e5 e6 e7 e8
  simp only [List.cons.injEq, and_true] at h0 h1 h2 h3 h4 h5 h6 h7
  subst h0 h1 h2 h3 h4 h5 h6 h7 h8
  exact ⟨⟨t0, t1, t2, t3, t4, t5, t6, t7, ps⟩, A, k, rfl, ⟨hrd, hle, hnil⟩, hg⟩
set_option maxRecDepth 100000 in
theorem open_config {W : World} {base : Nat} {v : Value} {d : DataW H} {p : List MemPlace} (hv : Value.okWide Tryz.prog W .any base 24 v) (h : DataW.Trod enc Tryz.prog W 0 (fun _ => true) true 24 v d p) : ∃ (c : Cf) (A : Option Addr) (m : Nat), v = cfV c A c.own.length m ∧ SlPI W A m c.own ∧ ∀ k (hk : k < c.own.length), c.own[k].a < 4294967296 := by
  obtain ⟨cs, rfl, hsz⟩ := okWide_struct Tryz.underlying24 hv
  obtain ⟨fuel, hf⟩ := h
  obtain ⟨c, A, m, hx, hS, hfit⟩ := config_of _ _ _ hf
  refine ⟨c, A, m, ?_, hS, fun k hk => hfit _ (List.getElem_mem hk)⟩
  have : cs = cfC c A c.own.length m := by
    apply Array.ext'
    simpa [Value.cells] using hx
  rw [this]
  rfl
set_option maxRecDepth 100000 in
theorem open_acts {W : World} {base : Nat} {v : Value} {d : DataW H} {p : List MemPlace} (hv : Value.okWide Tryz.prog W .any base 25 v) (h : DataW.Trod enc Tryz.prog W 0 (fun _ => true) true 25 v d p) : ∃ A c ls, v = .slice A ls.length c ∧ Rd W 9 Ac.enc A ls ∧ ∀ x ∈ ls, x.fits := by
  obtain ⟨a, l, cp, rfl⟩ := okWide_slice Tryz.underlying25 hv
  obtain ⟨n, h⟩ := h
  obtain ⟨A, c, ls, hl, _, hrd, hg⟩ := rd_of_slice (sz := 9) Ac.enc Ac.fits (fun _ => rfl) Tryz.underlying25 (by kernel_rfl) (by omega) (fun cs n x h => by
    obtain ⟨y, hy, hf⟩ := act_of cs n x h
    exact ⟨y, hy, hf⟩) h
  exact ⟨A, c, ls, hl, hrd, hg⟩
end
end Go.Proofs.YtffckpkikdlbpaaGreatDoor

namespace Go.Proofs.YtffckpkikdlbpaaGreatDoor
open Go.ChangeShapes Go.WideShapes Go.ChangeAt Go.RowKit
theorem gCap : Tryz.prog.globalNamed "waywarden/config.capBounds" = some 1 := by kernel_rfl
theorem tCap : (Tryz.prog.globals[1]?).map (·.type) = some 118 := by kernel_rfl
theorem gFac : Tryz.prog.globalNamed "waywarden/rib.faceBounds" = some 0 := by kernel_rfl
theorem tFac : (Tryz.prog.globals[0]?).map (·.type) = some 118 := by kernel_rfl
def bndLaid : List (String × DataW Unit) := [("waywarden/config.capBounds", Rows.laid_waywarden_config_capBounds), ("waywarden/rib.faceBounds", Rows.laid_waywarden_rib_faceBounds)]
theorem bnd_one {H : Type} {enc : TypeId × Value → H} {W : World} {base fuel : Nat} {sp : Nat → Bool} {held : Bool} {c : List Value} {p : List MemPlace} {a : Int}
    (h : DataW.trod enc Tryz.prog W base sp held fuel 3 c = some (.lit (.int .i64 a), p)) : c = [.int .i64 a] := by
  obtain ⟨n, e1, e2, _⟩ := DataW.trod_int Tryz.underlying3 h
  simp only [Prod.mk.injEq, DataW.lit.injEq, Lit.int.injEq] at e2
  rw [e1, e2.1.2]
theorem len2b {l : List Value} (h : l.length = 2) : ∃ a b, l = [a, b] := by
  match l, h with
  | [a, b], _ => exact ⟨a, b, rfl⟩
set_option maxRecDepth 100000 in
theorem bnd_row {H : Type} {enc : TypeId × Value → H} {W : World} {base fuel : Nat} {sp : Nat → Bool} {held : Bool} {c : List Value} {p : List MemPlace} {a b : Int}
    (h : DataW.trod enc Tryz.prog W base sp held fuel 118 c = some (.agg [.lit (.int .i64 a), .lit (.int .i64 b)], p)) : c = [.int .i64 a, .int .i64 b] := by
  obtain ⟨xs, m, rfl, hx, hlen, hn, hel⟩ := DataW.trod_array Tryz.underlying118 h
  have c1 : Tryz.prog.cellsOf 3 = 1 := by kernel_rfl
  have c2 : Tryz.prog.cellsOf 118 = 2 := by kernel_rfl
  rw [c2] at hlen
  rw [c1] at hel
  have h0 := hel 0 (by decide)
  have h1 := hel 1 (by decide)
  match xs, hn, hx, h0, h1 with
  | [(x0, p0), (x1, p1)], _, hx, h0, h1 =>
    simp only [List.map_cons, List.map_nil, Prod.mk.injEq, DataW.agg.injEq, List.cons.injEq, and_true] at hx
    obtain ⟨⟨rfl, rfl⟩, _⟩ := hx
    have e0 := bnd_one (show DataW.trod _ Tryz.prog W _ _ _ m _ _ = some (_, p0) from h0)
    have e1 := bnd_one (show DataW.trod _ Tryz.prog W _ _ _ m _ _ = some (_, p1) from h1)
    obtain ⟨u, v, rfl⟩ := len2b hlen
    simp at e0 e1
    rw [e0, e1]
set_option maxRecDepth 100000 in
theorem bnd_of_laid {W : World} (h : laidMetH Tryz.prog bndLaid W) : CapAt W ∧ FacAt W := by
  unfold bndLaid at h
  rw [MakeChecks.laidMetH_plain _ _ _ (by kernel_rfl)] at h
  obtain ⟨ps, ⟨g0, t0, cs0, f0, p0, q0, hg0, ht0, hv0, hd0, ⟨g1, t1, cs1, f1, p1, q1, hg1, ht1, hv1, hd1, _, _⟩, _⟩, _, _⟩ := h
  obtain rfl := Option.some.inj (gCap.symm.trans hg0)
  obtain rfl := Option.some.inj (tCap.symm.trans ht0)
  obtain rfl := Option.some.inj (gFac.symm.trans hg1)
  obtain rfl := Option.some.inj (tFac.symm.trans ht1)
  have a0 := World.var?_cell hg0 hv0 0
  have a1 := World.var?_cell hg0 hv0 1
  have b0 := World.var?_cell hg1 hv1 0
  have b1 := World.var?_cell hg1 hv1 1
  have e0 := bnd_row (show DataW.trod _ Tryz.prog W _ _ _ _ _ _ = some (.agg [.lit (.int .i64 1), .lit (.int .i64 256)], _) from hd0)
  have e1 := bnd_row (show DataW.trod _ Tryz.prog W _ _ _ _ _ _ = some (.agg [.lit (.int .i64 0), .lit (.int .i64 15)], _) from hd1)
  obtain ⟨l⟩ := cs0
  obtain ⟨m⟩ := cs1
  simp only at e0 e1
  subst e0 e1
  simp at a0 a1 b0 b1
  exact ⟨⟨a0, a1⟩, ⟨b0, b1⟩⟩
theorem door_met (os : Os) (args : Array Value) : laidMetH Tryz.prog bndLaid ((World.doorLaid Tryz.prog 400 os).forCall (fun _ _ => 0) ⟨#[], args, []⟩).memory :=
  laidMetH_of_parts3 (fuel := 8) (laidMet_of_run' 8 (by kernel_rfl) (by kernel_rfl)) (by kernel_rfl) (by kernel_rfl)
end Go.Proofs.YtffckpkikdlbpaaGreatDoor

namespace Go.Proofs.YtffckpkikdlbpaaGreatDoor
open Go Go.ChangeShapes Go.WideShapes Go.ChangeAt Go.RowKit Go.Joins Go.Deep
theorem ribHolds_args {H : Type} {enc : TypeId × Value → H} {P : Program} {W : World} {base : Nat} {spare : Nat → Bool} {held : Bool} {t0 t1 : TypeId} {args : Array Value} {ds : List (DataW H)} {ps : List MemPlace} (h : DataW.TrodAll enc P W base spare held [t0, t1] args.toList ds ps) :
    ∃ v0 v1 d0 d1 p0 p1, args = #[v0, v1] ∧ ds = [d0, d1] ∧ DataW.Trod enc P W base spare held t0 v0 d0 p0 ∧ DataW.Trod enc P W base spare held t1 v1 d1 p1 := by
  obtain ⟨v0, r0, d0, s0, p0, q0, e0, rfl, -, h0, k0⟩ := trodAll_cons h
  obtain ⟨v1, r1, d1, s1, p1, q1, rfl, rfl, -, h1, k1⟩ := trodAll_cons k0
  obtain ⟨rfl, rfl, -⟩ := trodAll_nil k1
  exact ⟨v0, v1, d0, d1, p0, p1, Array.ext' (by simpa using e0), rfl, h0, h1⟩
set_option maxRecDepth 100000 in
theorem ribHolds_lifted (os : Os) (started : os.Started) (H : Type) (enc : TypeId × Value → H) :
    ReturnsInHanded {} Tryz.checked os 4 .any (fun w args => (Rows.ribHoldsSpec.pre enc Tryz.prog Tryz.f4 [] false w args ∧ laidMetH Tryz.prog bndLaid w) ∧ sizedMet enc Tryz.prog Tryz.f4 (OpenSpec.ofChange Rows.ribHoldsSpec) false w args)
      (Rows.ribHoldsSpec.post enc Tryz.prog Tryz.f4 false true false false) := by
  refine returnsInHanded_of_change_and (C := Tryz.checked) (X := fun w _ => laidMetH Tryz.prog bndLaid w) (fun _ _ _ hh h => h.of_heap hh) Tryz.own started (by kernel_rfl) Tryz.func4
    (ChangeSpec.witness_shaped (enc := enc) (C := Tryz.checked) (os := os) (X := fun w _ => laidMetH Tryz.prog bndLaid w) false (World.doorLaid Tryz.prog 400 os) #[.agg #[.int .i64 0, .int .i64 0, .int .i64 0, .int .i64 0, .int .i64 0, .int .i64 0, .int .i64 0, .int .i64 0, .slice none 0 0], .slice none 0 0] 8 rfl (World.shaped_of_RefB (by kernel_rfl) (by kernel_rfl)) (by kernel_rfl) (by kernel_rfl) (by kernel_rfl) (door_met os _)) ?_
  intro W base args ds gs before hval0 hW _ _ hL _
  have hval : ∀ (j : Nat) t v, Tryz.f4.params[j]? = some t → args[j]? = some v → Value.okWide Tryz.prog W .any base t v := hval0
  have hW' := hW
  obtain ⟨p, q, hA0, hV, rfl, hfz, hnd⟩ := hW
  have hA : DataW.TrodAll enc Tryz.prog W 0 (fun _ => true) true Tryz.f4.params.toList args.toList ds p := hA0
  rw [Tryz.params4] at hA hval
  obtain ⟨v0, v1, _, _, _, _, rfl, rfl, h0, h1⟩ := ribHolds_args hA
  obtain ⟨rfl, rfl⟩ := trodVars_none hV
  obtain ⟨c, Ac, mc, rfl, hSc, hwc⟩ := open_config (hval 0 _ v0 rfl rfl) h0
  obtain ⟨Al, cl, ls, rfl, hRl, hxl⟩ := open_acts (hval 1 _ v1 rfl rfl) h1
  clear hA0 hval0
  refine (holds_any c Ac Al mc cl ls W hSc hwc hRl hxl (bnd_of_laid hL).1 (bnd_of_laid hL).2).mono fun e W' ⟨he, hK⟩ => ?_
  subst he
  refine ⟨_, rfl, law_post hW' rfl rfl rfl rfl rfl ?_ hK⟩
  intro t ht
  rw [Tryz.params4] at ht
  simp only [List.mem_cons, List.not_mem_nil, or_false] at ht
  rcases ht with rfl | rfl <;> exact ⟨by kernel_rfl, of_decide_eq_true (by kernel_rfl)⟩
theorem ribHolds_holds : Rows.RibHoldsSaid :=
  OpenClaim.holds_of_wide 4 Tryz.f4 rfl rfl rfl rfl rfl rfl rfl ⟨rfl, rfl, rfl, rfl, rfl⟩ rfl rfl rfl rfl rfl (by kernel_rfl) Tryz.func4 (by kernel_rfl)
    (of_decide_eq_true (by kernel_rfl)) (by unfold Func.isWrapper; first | (rw [if_pos (by decide +kernel)]; kernel_rfl) | (rw [if_neg (by decide +kernel)]; exact ⟨rfl, rfl⟩))
    (fun os started H enc _ => ribHolds_lifted os started H enc)
theorem ribHolds_card_holds : Rows.RibHoldsCardSaid :=
  Claim7.holds_tied_plain_at .later [] [.data, .data] true (true, "586ab27a9cc3d6bee9cbc77fec668b1b6cd7ac748da3f1b3c451dc07011a5134") true
    ribHolds_holds (fun _ h => by cases h) (by kernel_rfl) (fun _ h => by cases h) ribHolds_row_tie rfl ⟨rfl, rfl⟩ (by kernel_rfl) rfl
    (fun f fn hf hfn => by
      obtain rfl : f = 4 := Option.some.inj ((show Tryz.prog.funcNamed "waywarden/waywardenlaw12.RibHolds" = some 4 by kernel_rfl).symm.trans hf) |>.symm
      obtain rfl : fn = Tryz.f4 := (Option.some.inj (Tryz.func4.symm.trans hfn)).symm
      exact ⟨by kernel_rfl, fun j t ht => by
        rw [Tryz.params4] at ht
        have hm : t ∈ [24, 25] := by simpa using Array.mem_of_getElem? ht
        have hall : ([24, 25].all fun u => !Tryz.prog.wantsStandIn u) = true := by kernel_rfl
        exact (show Tryz.prog.wantsStandIn t = false by simpa using List.all_eq_true.1 hall t hm)⟩)
    (by kernel_rfl)
end Go.Proofs.YtffckpkikdlbpaaGreatDoor
