/- Proved here: THE TIED CARD of RibNone of the package waywardenlaw12: for every input the law returns true, and each argument reads behind the call as it read before (Rows.RibNoneCardSaid). Conditions: the two listed tables of bounds start as the program's text lays them, which the card ties. -/
import Derived.Test.YtffckpkikdlbpaaGreatDoorZrBm
import Derived.Test.YtffckpkikdlbpaaGreatDoorZrBn
import Derived.ChangeArms
import Derived.Test.YtffckpkikdlbpaaGreatDoorRows
import Derived.ProofKit
import Derived.LaidMore
import Derived.OpenShut
import Derived.Stop.Joined
import Derived.Test.YtffckpkikdlbpaaGreatDoorTie
import Derived.Test.YtffckpkikdlbpaaGreatDoorCards
import Derived.SevenTiedAt
set_option linter.unusedSimpArgs false
set_option linter.unusedVariables false
namespace Go.Proofs.YtffckpkikdlbpaaGreatDoor
open Go.RowKit Go.Maps
/-- A call, as the law takes it. -/
structure Ac where
  wh : Int
  fc : Int
  p : PI
  h : Hd
  more : Int
  la : Bool
def acC (x : Ac) : Array Value := #[.int .i64 x.wh, .int .i64 x.fc, .int .u32 (x.p.a : Int), .int .i64 x.p.l, .int .i64 x.h.f, .int .u32 (x.h.a : Int), .int .i64 x.h.m, .int .i64 x.more, .bool x.la]
set_option maxRecDepth 100000 in
set_option maxHeartbeats 4000000 in
theorem none_any (x : Ac) (w : World) (hC : CapAt w) (hF : FacAt w) : Calls Tryz.prog 7 #[.agg (acC x)] w fun e w' => e = .returned (.bool true) ∧ Kp w w' := by
  have HC := Lib.hid hC
  have HF := Lib.hid hF
  obtain ⟨b, hb⟩ : ∃ b, w.heap.size = b := ⟨_, rfl⟩
  obtain ⟨W, hW, kW, B0⟩ : ∃ W, w.alloc (.cells (acC x) 33) = W ∧ Kp w W ∧ Blk W b 33 (acC x) := ⟨_, rfl, (Kp.refl _).alloc _, by rw [← hb]; exact Blk.new _ _ _⟩
  have p1 : W.cell? ⟨b, 1, none⟩ = some (.int .i64 x.fc) := B0.cell 1
  have p2 : W.cell? ⟨b, 2, none⟩ = some (.int .u32 (x.p.a : Int)) := B0.cell 2
  have p3 : W.cell? ⟨b, 3, none⟩ = some (.int .i64 x.p.l) := B0.cell 3
  have p4 : W.cell? ⟨b, 4, none⟩ = some (.int .i64 x.h.f) := B0.cell 4
  have p5 : W.cell? ⟨b, 5, none⟩ = some (.int .u32 (x.h.a : Int)) := B0.cell 5
  have p6 : W.cell? ⟨b, 6, none⟩ = some (.int .i64 x.h.m) := B0.cell 6
  have p7 : W.cell? ⟨b, 7, none⟩ = some (.int .i64 x.more) := B0.cell 7
  have HB := Lib.hid B0
  unfold acC at hW ⊢
  clear hC hF B0
  go_enter Tryz.func7, Tryz.ntmps7
  go_wp2_with fail
  clear hW p1 p2 p3 p4 p5 p6 p7
  refine (hear_nil x.p x.h x.more _).mono ?_
  rintro e w1 ⟨rfl, K1⟩
  have f1 : ∀ o, (w1.alloc o).cell? ⟨b, 1, none⟩ = some (.int .i64 x.fc) := fun o => ((HB.out.keep K1).alloc o).cell 1
  have f7 : ∀ o, (w1.alloc o).cell? ⟨b, 7, none⟩ = some (.int .i64 x.more) := fun o => ((HB.out.keep K1).alloc o).cell 7
  go_wp2_with fail
  refine (lose_nil_ x.fc x.more _).mono ?_
  rintro e w2 ⟨rfl, K2⟩
  have k2 := (kW.trans (K1.alloc _)).trans K2
  have B2 := ((HB.out.keep K1).alloc _).keep K2
  have HB := Lib.hid B2
  have f7 : w2.cell? ⟨b, 7, none⟩ = some (.int .i64 x.more) := B2.cell 7
  clear B2 K1 K2
  go_wp2_with fail
  refine (exp_nil_ x.more _).mono ?_
  rintro e w3 ⟨rfl, K3⟩
  have k3 := k2.trans K3
  have B3 := HB.out.keep K3
  have p2 : w3.cell? ⟨b, 2, none⟩ = some (.int .u32 (x.p.a : Int)) := B3.cell 2
  have p3 : w3.cell? ⟨b, 3, none⟩ = some (.int .i64 x.p.l) := B3.cell 3
  clear B3 K3 f7 f1 HB
  go_wp2_with fail
  refine (get_nil x.p _).mono ?_
  rintro e w4 ⟨rfl, K4⟩
  have k4 := k3.trans K4
  clear K4 p2 p3
  go_wp2_with fail
  refine (next_nil_ _).mono ?_
  rintro e w5 ⟨rfl, rfl⟩
  have k5 := k4.alloc (.cells (roC zeroR) 48)
  go_wp2_with fail
  refine (num_any 1 _).mono ?_
  rintro e w5 ⟨rfl, rfl⟩
  go_wp2_with fail
  refine (num_any 1 _).mono ?_
  rintro e w5 ⟨rfl, rfl⟩
  go_wp2_with fail
  refine (num_any 1 _).mono ?_
  rintro e w5 ⟨rfl, rfl⟩
  go_wp2_with fail
  refine (all_nil _).mono ?_
  rintro e w6 ⟨bx, A, c, rfl, hM6, K6, -, -⟩
  have k6 := k5.trans K6
  have HM := Lib.hid hM6
  clear hM6 K6
  go_wp2_with fail
  refine (rows_any bx A none c 0 [] 1 _ HM.out (Rd.nil _ _ _ _) (by decide) (by decide)).mono ?_
  rintro e w7 ⟨rfl, K7⟩
  have k7 := k6.trans K7
  clear K7 HM
  go_wp2_with fail
  refine (changed_nil _).mono ?_
  rintro e w8 ⟨A8, c8, rfl, -, K8⟩
  have k8 := k7.trans K8
  clear K8
  go_wp2_with fail
  refine (seen_nil_ _).mono ?_
  rintro e w9 ⟨rfl, h9⟩
  rw [h9]
  clear h9 w9
  go_wp2_with fail
  refine (len_nil_ _).mono ?_
  rintro e w9 ⟨rfl, h9⟩
  rw [h9]
  clear h9 w9
  go_wp2_with fail
  refine (refused_nil _).mono ?_
  rintro e w9 ⟨rfl, h9⟩
  rw [h9]
  clear h9 w9
  go_wp2_with fail
  refine (now_nil _).mono ?_
  rintro e w9 ⟨rfl, h9⟩
  rw [h9]
  clear h9 w9
  go_wp2_with fail
  refine (config_nil_ _).mono ?_
  rintro e w9 ⟨rfl, K9⟩
  have k9 := k8.trans K9
  clear K9
  go_wp2_with fail
  refine (rcsame_any zeroC none none 0 0 _ (Rd.nil _ _ _ _) (Rd.nil _ _ _ _) (by decide)).mono ?_
  rintro e wa ⟨rfl, Ka⟩
  have ka := k9.trans Ka
  clear Ka
  go_wp2_with fail
  refine (copy_nil_ _).mono ?_
  rintro e wb ⟨rfl, hb⟩
  rw [hb]
  clear hb wb
  go_wp2_with fail
  refine (same_nil_ _).mono ?_
  rintro e wb ⟨rfl, hb⟩
  rw [hb]
  clear hb wb
  go_wp2_with fail
  refine (works_any _ (HC.out.keep ka) (HF.out.keep ka)).mono ?_
  rintro e wc ⟨rfl, Kc⟩
  have kc := ka.trans Kc
  clear Kc
  go_wp2_with fail
  go_ret
  exact ⟨rfl, kc⟩
end Go.Proofs.YtffckpkikdlbpaaGreatDoor

namespace Go.Proofs.YtffckpkikdlbpaaGreatDoor
open Go.ChangeShapes Go.WideShapes Go.ChangeAt Go.RowKit Go.Joins Go.Deep
theorem lenL2 {α : Type} {l : List α} (h : l.length = 2) : ∃ c0 c1, l = [c0, c1] := by
  match l, h with
  | [c0, c1], _ => exact ⟨c0, c1, rfl⟩
theorem lenL3 {α : Type} {l : List α} (h : l.length = 3) : ∃ c0 c1 c2, l = [c0, c1, c2] := by
  match l, h with
  | [c0, c1, c2], _ => exact ⟨c0, c1, c2, rfl⟩
theorem lenL6 {α : Type} {l : List α} (h : l.length = 6) : ∃ c0 c1 c2 c3 c4 c5, l = [c0, c1, c2, c3, c4, c5] := by
  match l, h with
  | [c0, c1, c2, c3, c4, c5], _ => exact ⟨c0, c1, c2, c3, c4, c5, rfl⟩
theorem lenL9 {α : Type} {l : List α} (h : l.length = 9) : ∃ c0 c1 c2 c3 c4 c5 c6 c7 c8, l = [c0, c1, c2, c3, c4, c5, c6, c7, c8] := by
  match l, h with
  | [c0, c1, c2, c3, c4, c5, c6, c7, c8], _ => exact ⟨c0, c1, c2, c3, c4, c5, c6, c7, c8, rfl⟩
theorem nat_u32 {n : Int} (h : (Lit.int .u32 n).wf = true) : ∃ a : Nat, n = (a : Int) ∧ a < 4294967296 := by
  simp [Lit.wf, IntKind.min, IntKind.max, IntKind.bits, IntKind.signed] at h
  exact ⟨n.toNat, by omega, by omega⟩
def I64 (n : Int) : Prop := -9223372036854775808 ≤ n ∧ n ≤ 9223372036854775807
theorem int_i64 {n : Int} (h : (Lit.int .i64 n).wf = true) : I64 n := by
  simp [Lit.wf, IntKind.min, IntKind.max, IntKind.bits, IntKind.signed] at h
  exact ⟨by omega, by omega⟩
/-- A call's numbers are what their types hold. -/
structure Ac.fits (x : Ac) : Prop where
  wh : I64 x.wh
  fc : I64 x.fc
  pa : x.p.a < 4294967296
  pl : I64 x.p.l
  hf : I64 x.h.f
  ha : x.h.a < 4294967296
  hm : I64 x.h.m
  more : I64 x.more
section
variable {H : Type} {enc : TypeId × Value → H}
set_option maxRecDepth 100000 in
theorem pfx_of {W : World} {base : Nat} {sp : Nat → Bool} {held : Bool} (cs : List Value) (n : Nat) (x : DataW H × List MemPlace) (h : DataW.trod enc Tryz.prog W base sp held n 29 cs = some x) : ∃ p : PI, cs = [.int .u32 (p.a : Int), .int .i64 p.l] ∧ p.a < 4294967296 ∧ I64 p.l := by
  obtain ⟨xs, m, _, _, hl, hlen, hf⟩ := DataW.trod_struct Tryz.underlying29 h
  have hC : Tryz.prog.cellsOf 29 = 2 := by kernel_rfl
  have hC0 : Tryz.prog.cellsOf 27 = 1 := by kernel_rfl
  have hC1 : Tryz.prog.cellsOf 3 = 1 := by kernel_rfl
  rw [hC] at hl
  obtain ⟨c0, c1, rfl⟩ := lenL2 hl
  obtain ⟨y0, y1, rfl⟩ := lenL2 hlen
  clear hl hlen hC h
  have e0 : DataW.trod enc Tryz.prog W base sp held m 27 [c0] = some y0 := by
    have this : DataW.trod enc Tryz.prog W base sp held m 27 (([c0, c1].drop 0).take (Tryz.prog.cellsOf 27)) = some y0 := hf 0 _ rfl
    rw [hC0] at this; exact this
  have e1 : DataW.trod enc Tryz.prog W base sp held m 3 [c1] = some y1 := by
    have this : DataW.trod enc Tryz.prog W base sp held m 3 (([c0, c1].drop 1).take (Tryz.prog.cellsOf 3)) = some y1 := hf 1 _ rfl
    rw [hC1] at this; exact this
  clear hf
  obtain ⟨a, ha, _, hw⟩ := DataW.trod_int Tryz.underlying27 e0
  obtain ⟨b, hb, _, hw1⟩ := DataW.trod_int Tryz.underlying3 e1
  simp only [List.cons.injEq, and_true] at ha hb
  subst ha hb
  obtain ⟨a, rfl, hlt⟩ := nat_u32 hw
  exact ⟨⟨a, b⟩, rfl, hlt, int_i64 hw1⟩
set_option maxRecDepth 100000 in
theorem heard_of {W : World} {base : Nat} {sp : Nat → Bool} {held : Bool} (cs : List Value) (n : Nat) (x : DataW H × List MemPlace) (h : DataW.trod enc Tryz.prog W base sp held n 31 cs = some x) : ∃ h : Hd, cs = [.int .i64 h.f, .int .u32 (h.a : Int), .int .i64 h.m] ∧ h.a < 4294967296 ∧ I64 h.f ∧ I64 h.m := by
  obtain ⟨xs, m, _, _, hl, hlen, hf⟩ := DataW.trod_struct Tryz.underlying31 h
  have hC : Tryz.prog.cellsOf 31 = 3 := by kernel_rfl
  have hC0 : Tryz.prog.cellsOf 3 = 1 := by kernel_rfl
  have hC1 : Tryz.prog.cellsOf 27 = 1 := by kernel_rfl
  rw [hC] at hl
  obtain ⟨c0, c1, c2, rfl⟩ := lenL3 hl
  obtain ⟨y0, y1, y2, rfl⟩ := lenL3 hlen
  clear hl hlen hC h
  have e0 : DataW.trod enc Tryz.prog W base sp held m 3 [c0] = some y0 := by
    have this : DataW.trod enc Tryz.prog W base sp held m 3 (([c0, c1, c2].drop 0).take (Tryz.prog.cellsOf 3)) = some y0 := hf 0 _ rfl
    rw [hC0] at this; exact this
  have e1 : DataW.trod enc Tryz.prog W base sp held m 27 [c1] = some y1 := by
    have this : DataW.trod enc Tryz.prog W base sp held m 27 (([c0, c1, c2].drop 1).take (Tryz.prog.cellsOf 27)) = some y1 := hf 1 _ rfl
    rw [hC1] at this; exact this
  have e2 : DataW.trod enc Tryz.prog W base sp held m 3 [c2] = some y2 := by
    have this : DataW.trod enc Tryz.prog W base sp held m 3 (([c0, c1, c2].drop 2).take (Tryz.prog.cellsOf 3)) = some y2 := hf 2 _ rfl
    rw [hC0] at this; exact this
  clear hf
  obtain ⟨f, hf, _, w0⟩ := DataW.trod_int Tryz.underlying3 e0
  obtain ⟨a, ha, _, w1⟩ := DataW.trod_int Tryz.underlying27 e1
  obtain ⟨m, hm, _, w2⟩ := DataW.trod_int Tryz.underlying3 e2
  simp only [List.cons.injEq, and_true] at hf ha hm
  subst hf ha hm
  obtain ⟨a, rfl, hlt⟩ := nat_u32 w1
  exact ⟨⟨f, a, m⟩, rfl, hlt, int_i64 w0, int_i64 w2⟩
set_option maxRecDepth 100000 in
theorem act_of {W : World} {base : Nat} {sp : Nat → Bool} {held : Bool} (cs : List Value) (n : Nat) (x : DataW H × List MemPlace) (h : DataW.trod enc Tryz.prog W base sp held n 33 cs = some x) : ∃ x : Ac, cs = (acC x).toList ∧ x.fits := by
  obtain ⟨xs, m, _, _, hl, hlen, hf⟩ := DataW.trod_struct Tryz.underlying33 h
  have hC : Tryz.prog.cellsOf 33 = 9 := by kernel_rfl
  have hC0 : Tryz.prog.cellsOf 3 = 1 := by kernel_rfl
  have hC1 : Tryz.prog.cellsOf 29 = 2 := by kernel_rfl
  have hC2 : Tryz.prog.cellsOf 31 = 3 := by kernel_rfl
  have hC3 : Tryz.prog.cellsOf 2 = 1 := by kernel_rfl
  have hC4 : Tryz.prog.cellsOf 4 = 1 := by kernel_rfl
  rw [hC] at hl
  obtain ⟨c0, c1, c2, c3, c4, c5, c6, c7, c8, rfl⟩ := lenL9 hl
  obtain ⟨y0, y1, y2, y3, y4, y5, rfl⟩ := lenL6 hlen
  clear hl hlen hC h
  have e0 : DataW.trod enc Tryz.prog W base sp held m 3 [c0] = some y0 := by
    have this : DataW.trod enc Tryz.prog W base sp held m 3 (([c0, c1, c2, c3, c4, c5, c6, c7, c8].drop 0).take (Tryz.prog.cellsOf 3)) = some y0 := hf 0 _ rfl
    rw [hC0] at this; exact this
  have e1 : DataW.trod enc Tryz.prog W base sp held m 3 [c1] = some y1 := by
    have this : DataW.trod enc Tryz.prog W base sp held m 3 (([c0, c1, c2, c3, c4, c5, c6, c7, c8].drop 1).take (Tryz.prog.cellsOf 3)) = some y1 := hf 1 _ rfl
    rw [hC0] at this; exact this
  have e2 : DataW.trod enc Tryz.prog W base sp held m 29 [c2, c3] = some y2 := by
    have this : DataW.trod enc Tryz.prog W base sp held m 29 (([c0, c1, c2, c3, c4, c5, c6, c7, c8].drop 2).take (Tryz.prog.cellsOf 29)) = some y2 := hf 2 _ rfl
    rw [hC1] at this; exact this
  have e3 : DataW.trod enc Tryz.prog W base sp held m 31 [c4, c5, c6] = some y3 := by
    have this : DataW.trod enc Tryz.prog W base sp held m 31 (([c0, c1, c2, c3, c4, c5, c6, c7, c8].drop 4).take (Tryz.prog.cellsOf 31)) = some y3 := hf 3 _ rfl
    rw [hC2] at this; exact this
  have e4 : DataW.trod enc Tryz.prog W base sp held m 2 [c7] = some y4 := by
    have this : DataW.trod enc Tryz.prog W base sp held m 2 (([c0, c1, c2, c3, c4, c5, c6, c7, c8].drop 7).take (Tryz.prog.cellsOf 2)) = some y4 := hf 4 _ rfl
    rw [hC3] at this; exact this
  have e5 : DataW.trod enc Tryz.prog W base sp held m 4 [c8] = some y5 := by
    have this : DataW.trod enc Tryz.prog W base sp held m 4 (([c0, c1, c2, c3, c4, c5, c6, c7, c8].drop 8).take (Tryz.prog.cellsOf 4)) = some y5 := hf 5 _ rfl
    rw [hC4] at this; exact this
  clear hf
  obtain ⟨wh, hw, _, w0⟩ := DataW.trod_int Tryz.underlying3 e0
  obtain ⟨fc, hfc, _, w1⟩ := DataW.trod_int Tryz.underlying3 e1
  obtain ⟨p, hp, wp, wl⟩ := pfx_of _ _ _ e2
  obtain ⟨hd, hh, wa, wf, wm⟩ := heard_of _ _ _ e3
  obtain ⟨mo, hmo, _, w4⟩ := DataW.trod_int Tryz.underlying2 e4
  obtain ⟨la, hla, _⟩ := DataW.trod_bool Tryz.underlying4 e5
  clear e0 e1 e2 e3 e4 e5
  simp only [List.cons.injEq, and_true] at hw hfc hp hh hmo hla
  obtain ⟨rfl, rfl⟩ := hp
  obtain ⟨rfl, rfl, rfl⟩ := hh
  subst hw hfc hmo hla
  exact ⟨⟨wh, fc, p, hd, mo, la⟩, rfl, ⟨int_i64 w0, int_i64 w1, wp, wl, wf, wa, wm, int_i64 w4⟩⟩
set_option maxRecDepth 100000 in
theorem open_act {W : World} {base : Nat} {v : Value} {d : DataW H} {p : List MemPlace} (hv : Value.okWide Tryz.prog W .any base 33 v) (h : DataW.Trod enc Tryz.prog W 0 (fun _ => true) true 33 v d p) : ∃ x : Ac, v = .agg (acC x) ∧ x.fits := by
  obtain ⟨cs, rfl, hsz⟩ := okWide_struct Tryz.underlying33 hv
  obtain ⟨fuel, hf⟩ := h
  obtain ⟨x, hx, hfit⟩ := act_of _ _ _ hf
  refine ⟨x, ?_, hfit⟩
  have : cs = acC x := by
    apply Array.ext'
    simpa [Value.cells] using hx
  rw [this]
end
end Go.Proofs.YtffckpkikdlbpaaGreatDoor

namespace Go.Proofs.YtffckpkikdlbpaaGreatDoor
open Go.ChangeShapes Go.WideShapes Go.ChangeAt Go.RowKit
theorem gCap : Tryz.prog.globalNamed "waywarden/config.capBounds" = some 1 := by kernel_rfl
theorem tCap : (Tryz.prog.globals[1]?).map (·.type) = some 118 := by kernel_rfl
theorem gFac : Tryz.prog.globalNamed "waywarden/rib.faceBounds" = some 0 := by kernel_rfl
theorem tFac : (Tryz.prog.globals[0]?).map (·.type) = some 118 := by kernel_rfl
def bndLaid : List (String × DataW Unit) := [("waywarden/config.capBounds", Rows.laid_waywarden_config_capBounds), ("waywarden/rib.faceBounds", Rows.laid_waywarden_rib_faceBounds)]
theorem bnd_one {H : Type} {enc : TypeId × Value → H} {W : World} {base fuel : Nat} {sp : Nat → Bool} {held : Bool} {c : List Value} {p : List MemPlace} {a : Int}
    (h : DataW.trod enc Tryz.prog W base sp held fuel 3 c = some (.lit (.int .i64 a), p)) : c = [.int .i64 a] := by
  obtain ⟨n, e1, e2, _⟩ := DataW.trod_int Tryz.underlying3 h
  simp only [Prod.mk.injEq, DataW.lit.injEq, Lit.int.injEq] at e2
  rw [e1, e2.1.2]
theorem len2b {l : List Value} (h : l.length = 2) : ∃ a b, l = [a, b] := by
  match l, h with
  | [a, b], _ => exact ⟨a, b, rfl⟩
set_option maxRecDepth 100000 in
theorem bnd_row {H : Type} {enc : TypeId × Value → H} {W : World} {base fuel : Nat} {sp : Nat → Bool} {held : Bool} {c : List Value} {p : List MemPlace} {a b : Int}
    (h : DataW.trod enc Tryz.prog W base sp held fuel 118 c = some (.agg [.lit (.int .i64 a), .lit (.int .i64 b)], p)) : c = [.int .i64 a, .int .i64 b] := by
  obtain ⟨xs, m, rfl, hx, hlen, hn, hel⟩ := DataW.trod_array Tryz.underlying118 h
  have c1 : Tryz.prog.cellsOf 3 = 1 := by kernel_rfl
  have c2 : Tryz.prog.cellsOf 118 = 2 := by kernel_rfl
  rw [c2] at hlen
  rw [c1] at hel
  have h0 := hel 0 (by decide)
  have h1 := hel 1 (by decide)
  match xs, hn, hx, h0, h1 with
  | [(x0, p0), (x1, p1)], _, hx, h0, h1 =>
    simp only [List.map_cons, List.map_nil, Prod.mk.injEq, DataW.agg.injEq, List.cons.injEq, and_true] at hx
    obtain ⟨⟨rfl, rfl⟩, _⟩ := hx
    have e0 := bnd_one (show DataW.trod _ Tryz.prog W _ _ _ m _ _ = some (_, p0) from h0)
    have e1 := bnd_one (show DataW.trod _ Tryz.prog W _ _ _ m _ _ = some (_, p1) from h1)
    obtain ⟨u, v, rfl⟩ := len2b hlen
    simp at e0 e1
    rw [e0, e1]
set_option maxRecDepth 100000 in
theorem bnd_of_laid {W : World} (h : laidMetH Tryz.prog bndLaid W) : CapAt W ∧ FacAt W := by
  unfold bndLaid at h
  rw [MakeChecks.laidMetH_plain _ _ _ (by kernel_rfl)] at h
  obtain ⟨ps, ⟨g0, t0, cs0, f0, p0, q0, hg0, ht0, hv0, hd0, ⟨g1, t1, cs1, f1, p1, q1, hg1, ht1, hv1, hd1, _, _⟩, _⟩, _, _⟩ := h
  obtain rfl := Option.some.inj (gCap.symm.trans hg0)
  obtain rfl := Option.some.inj (tCap.symm.trans ht0)
  obtain rfl := Option.some.inj (gFac.symm.trans hg1)
  obtain rfl := Option.some.inj (tFac.symm.trans ht1)
  have a0 := World.var?_cell hg0 hv0 0
  have a1 := World.var?_cell hg0 hv0 1
  have b0 := World.var?_cell hg1 hv1 0
  have b1 := World.var?_cell hg1 hv1 1
  have e0 := bnd_row (show DataW.trod _ Tryz.prog W _ _ _ _ _ _ = some (.agg [.lit (.int .i64 1), .lit (.int .i64 256)], _) from hd0)
  have e1 := bnd_row (show DataW.trod _ Tryz.prog W _ _ _ _ _ _ = some (.agg [.lit (.int .i64 0), .lit (.int .i64 15)], _) from hd1)
  obtain ⟨l⟩ := cs0
  obtain ⟨m⟩ := cs1
  simp only at e0 e1
  subst e0 e1
  simp at a0 a1 b0 b1
  exact ⟨⟨a0, a1⟩, ⟨b0, b1⟩⟩
theorem door_met (os : Os) (args : Array Value) : laidMetH Tryz.prog bndLaid ((World.doorLaid Tryz.prog 400 os).forCall (fun _ _ => 0) ⟨#[], args, []⟩).memory :=
  laidMetH_of_parts3 (fuel := 8) (laidMet_of_run' 8 (by kernel_rfl) (by kernel_rfl)) (by kernel_rfl) (by kernel_rfl)
end Go.Proofs.YtffckpkikdlbpaaGreatDoor

namespace Go.Proofs.YtffckpkikdlbpaaGreatDoor
open Go Go.ChangeShapes Go.WideShapes Go.ChangeAt Go.RowKit Go.Joins Go.Deep
set_option maxRecDepth 100000 in
theorem ribNone_lifted (os : Os) (started : os.Started) (H : Type) (enc : TypeId × Value → H) :
    ReturnsInHanded {} Tryz.checked os 7 .any (fun w args => (Rows.ribNoneSpec.pre enc Tryz.prog Tryz.f7 [] false w args ∧ laidMetH Tryz.prog bndLaid w) ∧ sizedMet enc Tryz.prog Tryz.f7 (OpenSpec.ofChange Rows.ribNoneSpec) false w args)
      (Rows.ribNoneSpec.post enc Tryz.prog Tryz.f7 false true false false) := by
  refine returnsInHanded_of_change_and (C := Tryz.checked) (X := fun w _ => laidMetH Tryz.prog bndLaid w) (fun _ _ _ hh h => h.of_heap hh) Tryz.own started (by kernel_rfl) Tryz.func7
    (ChangeSpec.witness_shaped (enc := enc) (C := Tryz.checked) (os := os) (X := fun w _ => laidMetH Tryz.prog bndLaid w) false (World.doorLaid Tryz.prog 400 os) #[.agg #[.int .i64 0, .int .i64 0, .int .u32 0, .int .i64 0, .int .i64 0, .int .u32 0, .int .i64 0, .int .i64 0, .bool false]] 8 rfl (World.shaped_of_RefB (by kernel_rfl) (by kernel_rfl)) (by kernel_rfl) (by kernel_rfl) (by kernel_rfl) (door_met os _)) ?_
  intro W base args ds gs before hval0 hW _ _ hL _
  have hval : ∀ (j : Nat) t v, Tryz.f7.params[j]? = some t → args[j]? = some v → Value.okWide Tryz.prog W .any base t v := hval0
  have hW' := hW
  obtain ⟨p, q, hA0, hV, rfl, hfz, hnd⟩ := hW
  have hA : DataW.TrodAll enc Tryz.prog W 0 (fun _ => true) true Tryz.f7.params.toList args.toList ds p := hA0
  rw [Tryz.params7] at hA hval
  obtain ⟨v0, d0, rfl, rfl, h0⟩ := trodAll_one hA
  obtain ⟨rfl, rfl⟩ := trodVars_none hV
  obtain ⟨x, rfl, F0⟩ := open_act (hval 0 _ v0 rfl rfl) h0
  clear hA0 hval0
  refine (none_any x W (bnd_of_laid hL).1 (bnd_of_laid hL).2).mono fun e W' ⟨he, hK⟩ => ?_
  subst he
  refine ⟨_, rfl, law_post hW' rfl rfl rfl rfl rfl ?_ hK⟩
  intro t ht
  rw [Tryz.params7] at ht
  simp only [List.mem_cons, List.not_mem_nil, or_false] at ht
  subst ht
  exact ⟨by kernel_rfl, of_decide_eq_true (by kernel_rfl)⟩
theorem ribNone_holds : Rows.RibNoneSaid :=
  OpenClaim.holds_of_wide 7 Tryz.f7 rfl rfl rfl rfl rfl rfl rfl ⟨rfl, rfl, rfl, rfl, rfl⟩ rfl rfl rfl rfl rfl (by kernel_rfl) Tryz.func7 (by kernel_rfl)
    (of_decide_eq_true (by kernel_rfl)) (by unfold Func.isWrapper; first | (rw [if_pos (by decide +kernel)]; kernel_rfl) | (rw [if_neg (by decide +kernel)]; exact ⟨rfl, rfl⟩))
    (fun os started H enc _ => ribNone_lifted os started H enc)
theorem ribNone_card_holds : Rows.RibNoneCardSaid :=
  Claim7.holds_tied_plain_at .later [] [.data, .data] true (true, "586ab27a9cc3d6bee9cbc77fec668b1b6cd7ac748da3f1b3c451dc07011a5134") true
    ribNone_holds (fun _ h => by cases h) (by kernel_rfl) (fun _ h => by cases h) ribNone_row_tie rfl ⟨rfl, rfl⟩ (by kernel_rfl) rfl
    (fun f fn hf hfn => by
      obtain rfl : f = 7 := Option.some.inj ((show Tryz.prog.funcNamed "waywarden/waywardenlaw12.RibNone" = some 7 by kernel_rfl).symm.trans hf) |>.symm
      obtain rfl : fn = Tryz.f7 := (Option.some.inj (Tryz.func7.symm.trans hfn)).symm
      exact ⟨by kernel_rfl, fun j t ht => by
        rw [Tryz.params7] at ht
        have hm : t ∈ [33] := by simpa using Array.mem_of_getElem? ht
        have hall : ([33].all fun u => !Tryz.prog.wantsStandIn u) = true := by kernel_rfl
        exact (show Tryz.prog.wantsStandIn t = false by simpa using List.all_eq_true.1 hall t hm)⟩)
    (by kernel_rfl)
end Go.Proofs.YtffckpkikdlbpaaGreatDoor
