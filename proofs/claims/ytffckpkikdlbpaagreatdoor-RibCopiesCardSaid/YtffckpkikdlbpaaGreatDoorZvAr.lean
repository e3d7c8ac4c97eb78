/- Lemmas and contracts for the theorem of this claim: RoG, RoE, TmQ. -/
import Derived.Test.YtffckpkikdlbpaaGreatDoorZvAp
set_option linter.all false
set_option maxHeartbeats 16000000
namespace Go.Proofs.YtffckpkikdlbpaaGreatDoor
section
open Go.RowKit
set_option maxRecDepth 100000 in
theorem veN (c : Cf) (A : Option Addr) (m : Nat) (r : Rt) (now : Int) (w : World) (hS : SlPI w A m c.own) (hC : CapAt w) (ha : ∀ k (hk : k < c.own.length), c.own[k].a < 4294967296) (hp : r.p.a < 4294967296) (hx : r.x < 4294967296) :
  Calls Tryz.prog 68 #[cfV c A c.own.length m, roV r, .int .i64 now] w (RTellP (askR c r now) (loseR c r now) w) := by
 obtain ⟨b, hb⟩ : ∃ b, w.heap.size = b := ⟨_, rfl⟩
 obtain ⟨W0, hW0, k0, B0, B1⟩ := Blk.al2 hb (cfC c A c.own.length m) 24 (roC r) 48
 have hs0 : W0.heap.size = b + 1 + 1 := by rw [← hW0, ← hb]; simp
 obtain ⟨W, hW, kW, C0, C1, C3, C4⟩ : ∃ W, (W0.alloc (.cells zero9 48)).alloc (.cells #[.int .i64 0] 53) = W ∧ Kp w W ∧ Blk W b 24 (cfC c A c.own.length m) ∧ Blk W (b + 1) 48 (roC r) ∧ Blk W (b + 1 + 1) 48 zero9 ∧ Blk W (b + 1 + 1 + 1) 53 #[.int .i64 0] := ⟨_, rfl, (k0.alloc _).alloc _, (B0.alloc _).alloc _, (B1.alloc _).alloc _, by rw [← hs0]; exact (Blk.new _ _ _).alloc _, by rw [← hs0]; exact Blk.new1 _ _ _ _⟩
 unfold cfC roC at hW0
 unfold zero9 at hW
 clear B0 B1 k0
 have hlt := C4.lt
 have xc0 := Blk.f C0 rfl
 have xp0 := Blk.f C1 rfl
 have hbo : bothB c r = (okCf c && okR r) := rfl
 go_enter_defers Tryz.func68, Tryz.ntmps68
 go_wp2_with fail
 refine (vbv c A m r _ (hS.keep kW) (hC.keep kW) ha hp hx).mono ?_
 rintro e w1 ⟨hY, hN, K1⟩
 have D0 := C0.keep K1
 have D1 := C1.keep K1
 have D3 := C3.keep K1
 have D4 := C4.keep K1
 have k1 := kW.trans K1
 clear xc0 xp0 hW hW0 C0 C1 C3 C4 K1
 rcases hb1 : bothB c r with _ | _
 ·obtain rfl := hN hb1
  have HN := Lib.hid (show askR c r now = 2 by unfold askR; rw [← hbo, hb1]; rfl)
  clear hY hN
  go_wp2_with fail
  refine leaves_cons (f := 109) (args := #[.pointer (some ⟨b + 1 + 1, 0, none⟩), .pointer (some ⟨b + 1 + 1 + 1, 0, none⟩)]) (by simp) (by simp [go_sem]) ?_
  refine (vdl (b + 1 + 1) (b + 1 + 1 + 1) _ _ _ _ _ _ _ _ _ _ 2 _ D3 D4 (by omega)).mono ?_
  rintro e u' wz ⟨rfl, rfl, C0, C1, hO⟩
  obtain ⟨q0, q1, q2, q3, q4, q5, q6, q7, q8⟩ := Blk.v9 C0 (.int .u32 0) (.int .i64 0) (.int .i64 0) (.int .i64 0) (.int .i64 0) (.int .i64 0) (.int .u32 0) (.int .i64 0) (.bool false) rfl
  have q9 : wz.cell? ⟨b + 1 + 1 + 1, 0, none⟩ = some (.int .i64 2) := C1.cell 0
  show Leaves _ _ _ _ [] .returning _
  exact ⟨.tuple #[roV zeroR, .int .i64 2], by simp [results, Tryz.results68, go_sem, zeroR, noR, q0, q1, q2, q3, q4, q5, q6, q7, q8, q9], RTellP.no HN.out (by decide) (hO.kp k1 (by simp; omega))⟩
 obtain rfl := hY hb1
 clear hY hN
 go_wp2_with fail
 refine (vbR now _).mono ?_
 rintro e w3 ⟨hY, hN, K3⟩
 have F0 := D0.keep K3
 have F1 := D1.keep K3
 have F3 := D3.keep K3
 have F4 := D4.keep K3
 have k3 := k1.trans K3
 clear D0 D1 D3 D4 K3 k1
 rcases hb3 : okNow now with _ | _
 ·obtain rfl := hN hb3
  have HN := Lib.hid (show askR c r now = 170 by unfold askR; rw [← hbo, hb1, hb3]; rfl)
  clear hY hN
  go_wp2_with fail
  refine leaves_cons (f := 109) (args := #[.pointer (some ⟨b + 1 + 1, 0, none⟩), .pointer (some ⟨b + 1 + 1 + 1, 0, none⟩)]) (by simp) (by simp [go_sem]) ?_
  refine (vdl (b + 1 + 1) (b + 1 + 1 + 1) _ _ _ _ _ _ _ _ _ _ 170 _ F3 F4 (by omega)).mono ?_
  rintro e u' wz ⟨rfl, rfl, C0, C1, hO⟩
  obtain ⟨q0, q1, q2, q3, q4, q5, q6, q7, q8⟩ := Blk.v9 C0 (.int .u32 0) (.int .i64 0) (.int .i64 0) (.int .i64 0) (.int .i64 0) (.int .i64 0) (.int .u32 0) (.int .i64 0) (.bool false) rfl
  have q9 : wz.cell? ⟨b + 1 + 1 + 1, 0, none⟩ = some (.int .i64 170) := C1.cell 0
  show Leaves _ _ _ _ [] .returning _
  exact ⟨.tuple #[roV zeroR, .int .i64 170], by simp [results, Tryz.results68, go_sem, zeroR, noR, q0, q1, q2, q3, q4, q5, q6, q7, q8, q9], RTellP.no HN.out (by decide) (hO.kp k3 (by simp; omega))⟩
 obtain rfl := hY hb3
 clear hY hN
 have HN := Lib.hid (show askR c r now = 0 by unfold askR; rw [← hbo, hb1, hb3]; rfl)
 rw [hbo, Bool.and_eq_true] at hb1
 have hrr := (vat r).1 hb1.2
 have t3 := vaN hb1.1 3 (by omega)
 have t4 := vaN hb1.1 4 (by omega)
 simp only [leastS, Cf.t] at t3 t4
 rw [okNow, vaa] at hb3
 have hn0 : 0 ≤ now := hb3.1
 have hn1 : now ≤ 4611686018427387904 := by omega
 have ss := vaI hrr.2
 clear hb1 hbo
 have xc0 := Blk.f F0 rfl
 have xp0 := Blk.f F1 rfl
 by_cases h2 : r.s = 2
 ·have e2 := beqT h2
  have hf : loseR c r now = lostR c r now := by unfold loseR; rw [if_pos h2]
  obtain ⟨x, hxx⟩ : ∃ x, lostR c r now = x := ⟨_, rfl⟩
  have HZ := Lib.hid (hf.trans hxx)
  have HX := Lib.hid hxx
  clear hxx hf ss h2
  go_wp2_with fail
  have HL := vcT c A c.own.length m r now w3 hn0 hn1 (by omega) t3.2
  rw [HX.out] at HL
  refine HL.mono ?_
  rintro e w4 ⟨rfl, K4⟩
  have G3 := F3.keep K4
  have G4 := F4.keep K4
  have k4 := k3.trans K4
  clear xc0 xp0 F0 F1 F3 F4 K4 k3
  obtain ⟨q0, q1, q2, q3, q4, q5, q6, q7, q8⟩ := Blk.v9 G3 (.int .u32 0) (.int .i64 0) (.int .i64 0) (.int .i64 0) (.int .i64 0) (.int .i64 0) (.int .u32 0) (.int .i64 0) (.bool false) rfl
  have z0 := Blk.frozen G3
  have d0 : w4.cell? ⟨b + 1 + 1 + 1, 0, none⟩ = some (.int .i64 0) := G4.cell 0
  have zd := Blk.frozen G4
  obtain ⟨R, hR, BR, BE, kR⟩ : ∃ R, ((((((((((w4.setCell ⟨b + 1 + 1, 0, none⟩ (.int .u32 (x.p.a : Int))).setCell ⟨b + 1 + 1, 1, none⟩ (.int .i64 x.p.l)).setCell ⟨b + 1 + 1, 2, none⟩ (.int .i64 x.s)).setCell ⟨b + 1 + 1, 3, none⟩ (.int .i64 x.m)).setCell ⟨b + 1 + 1, 4, none⟩ (.int .i64 x.l)).setCell ⟨b + 1 + 1, 5, none⟩ (.int .i64 x.f)).setCell ⟨b + 1 + 1, 6, none⟩ (.int .u32 (x.x : Int))).setCell ⟨b + 1 + 1, 7, none⟩ (.int .i64 x.d)).setCell ⟨b + 1 + 1, 8, none⟩ (.bool x.c)).setCell ⟨b + 1 + 1 + 1, 0, none⟩ (.int .i64 0)) = R ∧ Blk R (b + 1 + 1) 48 (roC x) ∧ Blk R (b + 1 + 1 + 1) 53 #[.int .i64 0] ∧ Kp w R :=
   ⟨_, rfl, (Blk.putRo G3 x).far (p := ⟨b + 1 + 1 + 1, 0, none⟩) (by show b + 1 + 1 ≠ b + 1 + 1 + 1; omega) _, (((((((((G4.far (p := ⟨b + 1 + 1, 0, none⟩) (by show b + 1 + 1 + 1 ≠ b + 1 + 1; omega) (.int .u32 (x.p.a : Int))).far (p := ⟨b + 1 + 1, 1, none⟩) (by show b + 1 + 1 + 1 ≠ b + 1 + 1; omega) (.int .i64 x.p.l)).far (p := ⟨b + 1 + 1, 2, none⟩) (by show b + 1 + 1 + 1 ≠ b + 1 + 1; omega) (.int .i64 x.s)).far (p := ⟨b + 1 + 1, 3, none⟩) (by show b + 1 + 1 + 1 ≠ b + 1 + 1; omega) (.int .i64 x.m)).far (p := ⟨b + 1 + 1, 4, none⟩) (by show b + 1 + 1 + 1 ≠ b + 1 + 1; omega) (.int .i64 x.l)).far (p := ⟨b + 1 + 1, 5, none⟩) (by show b + 1 + 1 + 1 ≠ b + 1 + 1; omega) (.int .i64 x.f)).far (p := ⟨b + 1 + 1, 6, none⟩) (by show b + 1 + 1 + 1 ≠ b + 1 + 1; omega) (.int .u32 (x.x : Int))).far (p := ⟨b + 1 + 1, 7, none⟩) (by show b + 1 + 1 + 1 ≠ b + 1 + 1; omega) (.int .i64 x.d)).far (p := ⟨b + 1 + 1, 8, none⟩) (by show b + 1 + 1 + 1 ≠ b + 1 + 1; omega) (.bool x.c)).set_ 0 (.int .i64 0), (Kp.putRo k4 (by omega) x).setCell (p := ⟨b + 1 + 1 + 1, 0, none⟩) (by show w.heap.size ≤ b + 1 + 1 + 1; omega) _⟩
  go_wp2_with fail
  clear q0 q1 q2 q3 q4 q5 q6 q7 q8
  obtain ⟨q0, q1, q2, q3, q4, q5, q6, q7, q8⟩ := vab BR
  have q9 : R.cell? ⟨b + 1 + 1 + 1, 0, none⟩ = some (.int .i64 0) := BE.cell 0
  refine leaves_cons (f := 109) (args := #[.pointer (some ⟨b + 1 + 1, 0, none⟩), .pointer (some ⟨b + 1 + 1 + 1, 0, none⟩)]) (by simp) (by simp [go_sem]) ?_
  refine (vdL _ _ _).mono ?_
  rintro e u' wz ⟨rfl, rfl, rfl⟩
  show Leaves _ _ _ _ [] .returning _
  exact ⟨.tuple #[roV x, .int .i64 0], by simp [results, Tryz.results68, go_sem, q0, q1, q2, q3, q4, q5, q6, q7, q8, q9], by first | exact RTellP.yes HN.out kR | (rw [HZ.out]; exact RTellP.yes HN.out kR)⟩
 ·have e2 := beqF h2
  have hf : loseR c r now = r := by unfold loseR; rw [if_neg h2]
  have HZ := Lib.hid hf
  clear hf ss
  obtain ⟨q0, q1, q2, q3, q4, q5, q6, q7, q8⟩ := Blk.v9 F3 (.int .u32 0) (.int .i64 0) (.int .i64 0) (.int .i64 0) (.int .i64 0) (.int .i64 0) (.int .u32 0) (.int .i64 0) (.bool false) rfl
  have z0 := Blk.frozen F3
  have d0 : w3.cell? ⟨b + 1 + 1 + 1, 0, none⟩ = some (.int .i64 0) := F4.cell 0
  have zd := Blk.frozen F4
  obtain ⟨R, hR, BR, BE, kR⟩ : ∃ R, ((((((((((w3.setCell ⟨b + 1 + 1, 0, none⟩ (.int .u32 (r.p.a : Int))).setCell ⟨b + 1 + 1, 1, none⟩ (.int .i64 r.p.l)).setCell ⟨b + 1 + 1, 2, none⟩ (.int .i64 r.s)).setCell ⟨b + 1 + 1, 3, none⟩ (.int .i64 r.m)).setCell ⟨b + 1 + 1, 4, none⟩ (.int .i64 r.l)).setCell ⟨b + 1 + 1, 5, none⟩ (.int .i64 r.f)).setCell ⟨b + 1 + 1, 6, none⟩ (.int .u32 (r.x : Int))).setCell ⟨b + 1 + 1, 7, none⟩ (.int .i64 r.d)).setCell ⟨b + 1 + 1, 8, none⟩ (.bool r.c)).setCell ⟨b + 1 + 1 + 1, 0, none⟩ (.int .i64 0)) = R ∧ Blk R (b + 1 + 1) 48 (roC r) ∧ Blk R (b + 1 + 1 + 1) 53 #[.int .i64 0] ∧ Kp w R :=
   ⟨_, rfl, (Blk.putRo F3 r).far (p := ⟨b + 1 + 1 + 1, 0, none⟩) (by show b + 1 + 1 ≠ b + 1 + 1 + 1; omega) _, (((((((((F4.far (p := ⟨b + 1 + 1, 0, none⟩) (by show b + 1 + 1 + 1 ≠ b + 1 + 1; omega) (.int .u32 (r.p.a : Int))).far (p := ⟨b + 1 + 1, 1, none⟩) (by show b + 1 + 1 + 1 ≠ b + 1 + 1; omega) (.int .i64 r.p.l)).far (p := ⟨b + 1 + 1, 2, none⟩) (by show b + 1 + 1 + 1 ≠ b + 1 + 1; omega) (.int .i64 r.s)).far (p := ⟨b + 1 + 1, 3, none⟩) (by show b + 1 + 1 + 1 ≠ b + 1 + 1; omega) (.int .i64 r.m)).far (p := ⟨b + 1 + 1, 4, none⟩) (by show b + 1 + 1 + 1 ≠ b + 1 + 1; omega) (.int .i64 r.l)).far (p := ⟨b + 1 + 1, 5, none⟩) (by show b + 1 + 1 + 1 ≠ b + 1 + 1; omega) (.int .i64 r.f)).far (p := ⟨b + 1 + 1, 6, none⟩) (by show b + 1 + 1 + 1 ≠ b + 1 + 1; omega) (.int .u32 (r.x : Int))).far (p := ⟨b + 1 + 1, 7, none⟩) (by show b + 1 + 1 + 1 ≠ b + 1 + 1; omega) (.int .i64 r.d)).far (p := ⟨b + 1 + 1, 8, none⟩) (by show b + 1 + 1 + 1 ≠ b + 1 + 1; omega) (.bool r.c)).set_ 0 (.int .i64 0), (Kp.putRo k3 (by omega) r).setCell (p := ⟨b + 1 + 1 + 1, 0, none⟩) (by show w.heap.size ≤ b + 1 + 1 + 1; omega) _⟩
  go_wp2_with fail
  clear q0 q1 q2 q3 q4 q5 q6 q7 q8
  obtain ⟨q0, q1, q2, q3, q4, q5, q6, q7, q8⟩ := vab BR
  have q9 : R.cell? ⟨b + 1 + 1 + 1, 0, none⟩ = some (.int .i64 0) := BE.cell 0
  refine leaves_cons (f := 109) (args := #[.pointer (some ⟨b + 1 + 1, 0, none⟩), .pointer (some ⟨b + 1 + 1 + 1, 0, none⟩)]) (by simp) (by simp [go_sem]) ?_
  refine (vdL _ _ _).mono ?_
  rintro e u' wz ⟨rfl, rfl, rfl⟩
  show Leaves _ _ _ _ [] .returning _
  exact ⟨.tuple #[roV r, .int .i64 0], by simp [results, Tryz.results68, go_sem, q0, q1, q2, q3, q4, q5, q6, q7, q8, q9], by first | exact RTellP.yes HN.out kR | (rw [HZ.out]; exact RTellP.yes HN.out kR)⟩
end

section
open Go.RowKit
set_option maxRecDepth 100000 in
theorem veO (c : Cf) (A : Option Addr) (m : Nat) (r : Rt) (h : Hd) (now : Int) (w : World) (hS : SlPI w A m c.own) (hC : CapAt w) (ha : ∀ k (hk : k < c.own.length), c.own[k].a < 4294967296) (hp : r.p.a < 4294967296) (hx : r.x < 4294967296) (hha : h.a < 4294967296) :
  Calls Tryz.prog 61 #[cfV c A c.own.length m, roV r, .agg #[.int .i64 h.f, .int .u32 (h.a : Int), .int .i64 h.m], .int .i64 now] w (RTellP (askH c r h now) (hearR c r h now) w) := by
 obtain ⟨b, hb⟩ : ∃ b, w.heap.size = b := ⟨_, rfl⟩
 obtain ⟨W0, hW0, k0, B0, B1, B2⟩ := Blk.al3 hb (cfC c A c.own.length m) 24 (roC r) 48 #[.int .i64 h.f, .int .u32 (h.a : Int), .int .i64 h.m] 31
 have hs0 : W0.heap.size = b + 1 + 1 + 1 := by rw [← hW0, ← hb]; simp
 obtain ⟨W, hW, kW, C0, C1, C2, C3, C4⟩ : ∃ W, (W0.alloc (.cells zero9 48)).alloc (.cells #[.int .i64 0] 53) = W ∧ Kp w W ∧ Blk W b 24 (cfC c A c.own.length m) ∧ Blk W (b + 1) 48 (roC r) ∧ Blk W (b + 1 + 1) 31 #[.int .i64 h.f, .int .u32 (h.a : Int), .int .i64 h.m] ∧ Blk W (b + 1 + 1 + 1) 48 zero9 ∧ Blk W (b + 1 + 1 + 1 + 1) 53 #[.int .i64 0] := ⟨_, rfl, (k0.alloc _).alloc _, (B0.alloc _).alloc _, (B1.alloc _).alloc _, (B2.alloc _).alloc _, by rw [← hs0]; exact (Blk.new _ _ _).alloc _, by rw [← hs0]; exact Blk.new1 _ _ _ _⟩
 unfold cfC roC at hW0
 unfold zero9 at hW
 clear B0 B1 B2 k0
 have hlt := C4.lt
 have xc0 := Blk.f C0 rfl
 have xp0 := Blk.f C1 rfl
 have hbo : bothB c r = (okCf c && okR r) := rfl
 go_enter_defers Tryz.func61, Tryz.ntmps61
 go_wp2_with fail
 refine (vbv c A m r _ (hS.keep kW) (hC.keep kW) ha hp hx).mono ?_
 rintro e w1 ⟨hY, hN, K1⟩
 have D0 := C0.keep K1
 have D1 := C1.keep K1
 have D2 := C2.keep K1
 have D3 := C3.keep K1
 have D4 := C4.keep K1
 have k1 := kW.trans K1
 clear xc0 xp0 hW hW0 C0 C1 C2 C3 C4 K1
 rcases hb1 : bothB c r with _ | _
 ·obtain rfl := hN hb1
  have HN := Lib.hid (show askH c r h now = 2 by unfold askH; rw [← hbo, hb1]; rfl)
  clear hY hN
  go_wp2_with fail
  refine leaves_cons (f := 104) (args := #[.pointer (some ⟨b + 1 + 1 + 1, 0, none⟩), .pointer (some ⟨b + 1 + 1 + 1 + 1, 0, none⟩)]) (by simp) (by simp [go_sem]) ?_
  refine (vbS (b + 1 + 1 + 1) (b + 1 + 1 + 1 + 1) _ _ _ _ _ _ _ _ _ _ 2 _ D3 D4 (by omega)).mono ?_
  rintro e u' wz ⟨rfl, rfl, C0, C1, hO⟩
  obtain ⟨q0, q1, q2, q3, q4, q5, q6, q7, q8⟩ := Blk.v9 C0 (.int .u32 0) (.int .i64 0) (.int .i64 0) (.int .i64 0) (.int .i64 0) (.int .i64 0) (.int .u32 0) (.int .i64 0) (.bool false) rfl
  have q9 : wz.cell? ⟨b + 1 + 1 + 1 + 1, 0, none⟩ = some (.int .i64 2) := C1.cell 0
  show Leaves _ _ _ _ [] .returning _
  exact ⟨.tuple #[roV zeroR, .int .i64 2], by simp [results, Tryz.results61, go_sem, zeroR, noR, q0, q1, q2, q3, q4, q5, q6, q7, q8, q9], RTellP.no HN.out (by decide) (hO.kp k1 (by simp; omega))⟩
 obtain rfl := hY hb1
 clear hY hN
 have xh0 := Blk.f D2 rfl
 go_wp2_with fail
 refine (veg h _ hha).mono ?_
 rintro e w2 ⟨hY, hN, K2⟩
 have E0 := D0.keep K2
 have E1 := D1.keep K2
 have E2 := D2.keep K2
 have E3 := D3.keep K2
 have E4 := D4.keep K2
 have k2 := k1.trans K2
 clear xh0 D0 D1 D2 D3 D4 K2 k1
 rcases hb2 : okHd h with _ | _
 ·obtain rfl := hN hb2
  have HN := Lib.hid (show askH c r h now = 2 by unfold askH; rw [← hbo, hb1, hb2]; rfl)
  clear hY hN
  go_wp2_with fail
  refine leaves_cons (f := 104) (args := #[.pointer (some ⟨b + 1 + 1 + 1, 0, none⟩), .pointer (some ⟨b + 1 + 1 + 1 + 1, 0, none⟩)]) (by simp) (by simp [go_sem]) ?_
  refine (vbS (b + 1 + 1 + 1) (b + 1 + 1 + 1 + 1) _ _ _ _ _ _ _ _ _ _ 2 _ E3 E4 (by omega)).mono ?_
  rintro e u' wz ⟨rfl, rfl, C0, C1, hO⟩
  obtain ⟨q0, q1, q2, q3, q4, q5, q6, q7, q8⟩ := Blk.v9 C0 (.int .u32 0) (.int .i64 0) (.int .i64 0) (.int .i64 0) (.int .i64 0) (.int .i64 0) (.int .u32 0) (.int .i64 0) (.bool false) rfl
  have q9 : wz.cell? ⟨b + 1 + 1 + 1 + 1, 0, none⟩ = some (.int .i64 2) := C1.cell 0
  show Leaves _ _ _ _ [] .returning _
  exact ⟨.tuple #[roV zeroR, .int .i64 2], by simp [results, Tryz.results61, go_sem, zeroR, noR, q0, q1, q2, q3, q4, q5, q6, q7, q8, q9], RTellP.no HN.out (by decide) (hO.kp k2 (by simp; omega))⟩
 obtain rfl := hY hb2
 clear hY hN
 go_wp2_with fail
 refine (vbR now _).mono ?_
 rintro e w3 ⟨hY, hN, K3⟩
 have F0 := E0.keep K3
 have F1 := E1.keep K3
 have F2 := E2.keep K3
 have F3 := E3.keep K3
 have F4 := E4.keep K3
 have k3 := k2.trans K3
 clear E0 E1 E2 E3 E4 K3 k2
 rcases hb3 : okNow now with _ | _
 ·obtain rfl := hN hb3
  have HN := Lib.hid (show askH c r h now = 170 by unfold askH; rw [← hbo, hb1, hb2, hb3]; rfl)
  clear hY hN
  go_wp2_with fail
  refine leaves_cons (f := 104) (args := #[.pointer (some ⟨b + 1 + 1 + 1, 0, none⟩), .pointer (some ⟨b + 1 + 1 + 1 + 1, 0, none⟩)]) (by simp) (by simp [go_sem]) ?_
  refine (vbS (b + 1 + 1 + 1) (b + 1 + 1 + 1 + 1) _ _ _ _ _ _ _ _ _ _ 170 _ F3 F4 (by omega)).mono ?_
  rintro e u' wz ⟨rfl, rfl, C0, C1, hO⟩
  obtain ⟨q0, q1, q2, q3, q4, q5, q6, q7, q8⟩ := Blk.v9 C0 (.int .u32 0) (.int .i64 0) (.int .i64 0) (.int .i64 0) (.int .i64 0) (.int .i64 0) (.int .u32 0) (.int .i64 0) (.bool false) rfl
  have q9 : wz.cell? ⟨b + 1 + 1 + 1 + 1, 0, none⟩ = some (.int .i64 170) := C1.cell 0
  show Leaves _ _ _ _ [] .returning _
  exact ⟨.tuple #[roV zeroR, .int .i64 170], by simp [results, Tryz.results61, go_sem, zeroR, noR, q0, q1, q2, q3, q4, q5, q6, q7, q8, q9], RTellP.no HN.out (by decide) (hO.kp k3 (by simp; omega))⟩
 obtain rfl := hY hb3
 clear hY hN
 have HN := Lib.hid (show askH c r h now = 0 by unfold askH; rw [← hbo, hb1, hb2, hb3]; rfl)
 rw [hbo, Bool.and_eq_true] at hb1
 have HH := vkI c A c.own.length m r h now w3 hb1.1 hb1.2 hb2 hb3
 obtain ⟨x, hxx⟩ : ∃ x, hearR c r h now = x := ⟨_, rfl⟩
 rw [hxx] at HH
 have HZ := Lib.hid hxx
 clear hb1 hb2 hb3 hbo hxx
 have xc0 := Blk.f F0 rfl
 have xp0 := Blk.f F1 rfl
 have xh0 := Blk.f F2 rfl
 go_wp2_with fail
 refine HH.mono ?_
 rintro e w4 ⟨rfl, K4⟩
 have G3 := F3.keep K4
 have G4 := F4.keep K4
 have k4 := k3.trans K4
 clear xc0 xp0 xh0 F0 F1 F2 F3 F4 K4 k3
 obtain ⟨q0, q1, q2, q3, q4, q5, q6, q7, q8⟩ := Blk.v9 G3 (.int .u32 0) (.int .i64 0) (.int .i64 0) (.int .i64 0) (.int .i64 0) (.int .i64 0) (.int .u32 0) (.int .i64 0) (.bool false) rfl
 have z0 := Blk.frozen G3
 have d0 : w4.cell? ⟨b + 1 + 1 + 1 + 1, 0, none⟩ = some (.int .i64 0) := G4.cell 0
 have zd := Blk.frozen G4
 obtain ⟨R, hR, BR, BE, kR⟩ : ∃ R, ((((((((((w4.setCell ⟨b + 1 + 1 + 1, 0, none⟩ (.int .u32 (x.p.a : Int))).setCell ⟨b + 1 + 1 + 1, 1, none⟩ (.int .i64 x.p.l)).setCell ⟨b + 1 + 1 + 1, 2, none⟩ (.int .i64 x.s)).setCell ⟨b + 1 + 1 + 1, 3, none⟩ (.int .i64 x.m)).setCell ⟨b + 1 + 1 + 1, 4, none⟩ (.int .i64 x.l)).setCell ⟨b + 1 + 1 + 1, 5, none⟩ (.int .i64 x.f)).setCell ⟨b + 1 + 1 + 1, 6, none⟩ (.int .u32 (x.x : Int))).setCell ⟨b + 1 + 1 + 1, 7, none⟩ (.int .i64 x.d)).setCell ⟨b + 1 + 1 + 1, 8, none⟩ (.bool x.c)).setCell ⟨b + 1 + 1 + 1 + 1, 0, none⟩ (.int .i64 0)) = R ∧ Blk R (b + 1 + 1 + 1) 48 (roC x) ∧ Blk R (b + 1 + 1 + 1 + 1) 53 #[.int .i64 0] ∧ Kp w R :=
  ⟨_, rfl, (Blk.putRo G3 x).far (p := ⟨b + 1 + 1 + 1 + 1, 0, none⟩) (by show b + 1 + 1 + 1 ≠ b + 1 + 1 + 1 + 1; omega) _, (((((((((G4.far (p := ⟨b + 1 + 1 + 1, 0, none⟩) (by show b + 1 + 1 + 1 + 1 ≠ b + 1 + 1 + 1; omega) (.int .u32 (x.p.a : Int))).far (p := ⟨b + 1 + 1 + 1, 1, none⟩) (by show b + 1 + 1 + 1 + 1 ≠ b + 1 + 1 + 1; omega) (.int .i64 x.p.l)).far (p := ⟨b + 1 + 1 + 1, 2, none⟩) (by show b + 1 + 1 + 1 + 1 ≠ b + 1 + 1 + 1; omega) (.int .i64 x.s)).far (p := ⟨b + 1 + 1 + 1, 3, none⟩) (by show b + 1 + 1 + 1 + 1 ≠ b + 1 + 1 + 1; omega) (.int .i64 x.m)).far (p := ⟨b + 1 + 1 + 1, 4, none⟩) (by show b + 1 + 1 + 1 + 1 ≠ b + 1 + 1 + 1; omega) (.int .i64 x.l)).far (p := ⟨b + 1 + 1 + 1, 5, none⟩) (by show b + 1 + 1 + 1 + 1 ≠ b + 1 + 1 + 1; omega) (.int .i64 x.f)).far (p := ⟨b + 1 + 1 + 1, 6, none⟩) (by show b + 1 + 1 + 1 + 1 ≠ b + 1 + 1 + 1; omega) (.int .u32 (x.x : Int))).far (p := ⟨b + 1 + 1 + 1, 7, none⟩) (by show b + 1 + 1 + 1 + 1 ≠ b + 1 + 1 + 1; omega) (.int .i64 x.d)).far (p := ⟨b + 1 + 1 + 1, 8, none⟩) (by show b + 1 + 1 + 1 + 1 ≠ b + 1 + 1 + 1; omega) (.bool x.c)).set_ 0 (.int .i64 0), (Kp.putRo k4 (by omega) x).setCell (p := ⟨b + 1 + 1 + 1 + 1, 0, none⟩) (by show w.heap.size ≤ b + 1 + 1 + 1 + 1; omega) _⟩
 go_wp2_with fail
 clear q0 q1 q2 q3 q4 q5 q6 q7 q8
 obtain ⟨q0, q1, q2, q3, q4, q5, q6, q7, q8⟩ := vab BR
 have q9 : R.cell? ⟨b + 1 + 1 + 1 + 1, 0, none⟩ = some (.int .i64 0) := BE.cell 0
 refine leaves_cons (f := 104) (args := #[.pointer (some ⟨b + 1 + 1 + 1, 0, none⟩), .pointer (some ⟨b + 1 + 1 + 1 + 1, 0, none⟩)]) (by simp) (by simp [go_sem]) ?_
 refine (vgP _ _ _).mono ?_
 rintro e u' wz ⟨rfl, rfl, rfl⟩
 show Leaves _ _ _ _ [] .returning _
 exact ⟨.tuple #[roV x, .int .i64 0], by simp [results, Tryz.results61, go_sem, q0, q1, q2, q3, q4, q5, q6, q7, q8, q9], by first | exact RTellP.yes HN.out kR | (rw [HZ.out]; exact RTellP.yes HN.out kR)⟩
end

section
open Go.RowKit Go.Maps Go.WideShapes
set_option maxRecDepth 100000 in
theorem vei {w : World} {m n : Nat} {f : Tk → Option Nat} (h : MpT w m n f) {t : Tk} (ht : t.wf) : ∃ v : Int, (∀ w', w'.heap = w.heap → (Instr.lookup 147 (.map (some m)) (tkV t) true).run Tryz.prog w' = .ok (.tuple #[.int .i64 v, .bool (f t).isSome]) w') ∧ ∀ i, f t = some i → v = (i : Int) := by
 obtain ⟨D, hD, _, hf⟩ := h
 have hz : ∀ w', (zeroValue 3).run Tryz.prog w' = .ok (.int .i64 0) w' := fun w' => by kernel_rfl
 have hzd : plainElem Tryz.prog 3 (.int .i64 0) = some ((.lit (.int .i64 0) : DataW Unit), ([] : List MemPlace)) := plainElem_int Tryz.underlying3 (vdc ⟨by omega, by omega⟩)
 have H : ∀ w', w'.heap = w.heap → ∃ v : Int, (Instr.lookup 147 (.map (some m)) (tkV t) true).run Tryz.prog w' = .ok (.tuple #[.int .i64 v, .bool (f t).isSome]) w' ∧ D.atKey (tkKey t) (.lit (.int .i64 0)) = .lit (.int .i64 v) := fun w' e => by
  obtain ⟨v, ps, h1, h2⟩ := World.ownsMap.look_ok (vaq hD (by rw [e])) keyedTm Tryz.underlying147 (hz w') hzd (vaZ ht)
  obtain ⟨x, rfl, h3, _⟩ := plainElem_int_inv Tryz.underlying3 h2
  rw [hf.has_ t ht] at h1
  injection h3 with h3 _
  exact ⟨x, h1, h3⟩
 obtain ⟨v, h1, h2⟩ := H w rfl
 refine ⟨v, fun w' e => ?_, fun i hi => ?_⟩
 ·obtain ⟨x, h3, h4⟩ := H w' e
  rw [h2] at h4
  injection h4 with h4
  injection h4 with _ h4
  rw [h4]
  exact h3
 ·have := hf.at_ t ht i hi
  rw [h2] at this
  injection this with h4
  injection h4
structure QuS (w : World) (B a : Nat) (bs : List Nat) (l : List Tw) : Prop where
 q : ∃ q m v, Blk w a 152 #[.pointer (some ⟨q, 0, none⟩)] ∧ QuM w B q m v l ∧ a ∈ bs ∧ q ∈ bs ∧ m ∈ bs ∧ ∀ g, v.ownBlock = some g → g ∈ bs
 lo : ∀ b ∈ bs, B ≤ b ∧ b < w.heap.size
 hp : Heap ltT (fT l) l.length
 k3 : ∀ y ∈ l, y.k = 3
set_option maxRecDepth 100000 in
theorem vkJ (B a q m : Nat) (A : Option Addr) (c n : Nat) (l : List Tw) (p : PI) (d : Int) (w : World) (hA : Blk w a 152 #[.pointer (some ⟨q, 0, none⟩)]) (Q : QuM w B q m (.slice A l.length c) l) (hln : l.length = n) (hB : B ≤ w.heap.size) (hx : (Tw.mk 3 p d).tk.wf) (hc : checkP p = 0) (hd0 : 0 ≤ d) (hd1 : d ≤ 4611686018427387904) (hn : ∀ i (h : i < l.length), l[i].tk ≠ (Tw.mk 3 p d).tk) (hl : n ≤ 900000) (hH : Heap ltT (fT l) n) :
  Calls Tryz.prog 137 #[.pointer (some ⟨a, 0, none⟩), .agg #[.int .i64 3, .int .u32 (p.a : Int), .int .i64 p.l], .int .i64 d] w fun e w' => (∃ v, e = .returned v) ∧ ∃ g c' l', QuM w' B q m (.slice (some ⟨g, 0, none⟩) (n + 1) c') l' ∧ l'.Perm (l ++ [⟨3, p, d⟩]) ∧ l'.length = n + 1 ∧ Heap ltT (fT l') (n + 1) ∧ ((Value.slice A l.length c).ownBlock = some g ∨ w.heap.size ≤ g) ∧ ∀ bs : List Nat, q ∈ bs → m ∈ bs → (∀ g, (Value.slice A l.length c).ownBlock = some g → g ∈ bs) → Only bs w w' := by
 have haq : p.a < 4294967296 := hx.a
 obtain ⟨r, hr⟩ : ∃ r, w.heap.size = r := ⟨_, rfl⟩
 obtain ⟨W0, hW0, K0, BP⟩ := Blk.al1 hr #[.int .i64 3, .int .u32 (p.a : Int), .int .i64 p.l] 158
 have A0 := hA.keep K0
 have Q0 := Q.keep K0
 obtain ⟨p0, p1, p2⟩ := Blk.v3 BP (.int .i64 3) (.int .u32 p.a) (.int .i64 p.l) rfl
 have hz : ¬ d < 0 := by omega
 have hmx : ¬ 4611686018427387904 < d := by omega
 have hzb : decide (d < 0) = false := decide_eq_false hz
 have hmb : decide (4611686018427387904 < d) = false := decide_eq_false hmx
 have HC := Lib.hid (vaH p W0 haq)
 have HCc := Lib.hid hc
 have Hn := Lib.hid hn
 have HH := Lib.hid hH
 have Hln := Lib.hid hln
 have Hx := Lib.hid hx
 clear hn hH hx hln
 clear hc
 go_enter Tryz.func137, Tryz.ntmps137
 go_wp2_with fail
 refine van 0 rfl ?_
 go_wp2_with fail
 refine (vbh a q _ A0).mono ?_
 rintro e w1 ⟨rfl, rfl⟩
 go_wp2_with fail
 refine HC.out.mono ?_
 rintro e w1 ⟨rfl, K1⟩
 rw [if_pos HCc.out]
 have KW := K0.trans K1
 have A1 := A0.keep K1
 have Q1 := Q0.keep K1
 obtain ⟨f, hm, hpl⟩ := Q1.mp
 obtain ⟨v, hlook, _⟩ := vei hm Hx.out
 have hf : f (Tw.mk 3 p d).tk = none := hpl.no _ Hn.out
 rw [hf] at hlook
 have hlk : ∀ k, (Instr.lookup 147 (.map (some m)) (.agg #[.int .i64 3, .int .u32 (p.a : Int), .int .i64 p.l]) true).run Tryz.prog (w1.drewN k) = .ok (.tuple #[.int .i64 v, .bool false]) (w1.drewN k) := fun k => hlook _ rfl
 have B1 := BP.keep K1
 have q0 : w1.cell? ⟨a, 0, none⟩ = some (.pointer (some ⟨q, 0, none⟩)) := A1.cell 0
 have q1 : w1.cell? ⟨q, 1, none⟩ = some (.map (some m)) := Q1.bk.cell 1
 obtain ⟨u0, u1, u2⟩ := Blk.v3 B1 (.int .i64 3) (.int .u32 p.a) (.int .i64 p.l) rfl
 clear hlook
 go_wp2_with fail
 go_quiet (fail)
 obtain ⟨W2, hW2, K2⟩ : ∃ W2, w1.drewN nq = W2 ∧ Kp w1 W2 := ⟨_, rfl, (Kp.refl _).drewN _⟩
 rw [hW2]
 have A2 := A1.keep K2
 have Q2 := Q1.keep K2
 have B2 := B1.keep K2
 clear hW2 hlk q0 q1 u0 u1 u2 p0 p1 p2 hf hpl hm
 have q0 : W2.cell? ⟨a, 0, none⟩ = some (.pointer (some ⟨q, 0, none⟩)) := A2.cell 0
 obtain ⟨u0, u1, u2⟩ := Blk.v3 B2 (.int .i64 3) (.int .u32 p.a) (.int .i64 p.l) rfl
 go_wp2_with fail
 go_still_tail 9, (by kernel_rfl)
 change wpList _ _ _ _ _ W2.drew
 go_wp2_with fail
 refine (veG B q m A c n l ⟨3, p, d⟩ W2.drew (Q2.keep ((Kp.refl _).drew)) Hln.out (Nat.le_trans hB (KW.trans K2).size) Hx.out (show wfI d from ⟨by omega, by omega⟩) Hn.out hl HH.out).mono ?_
 rintro e w3 ⟨rfl, g, c', l', Q3, hp3, hl3, hH3, hgg, hF⟩
 have Hgg := Lib.hid (hgg.imp id (fun h => Nat.le_trans (KW.trans K2).size h))
 clear hgg
 have HF := Lib.hid hF
 clear hF
 go_wp2_with fail
 refine vaX ?_
 exact bodyPost_ret (v := .tuple #[.int .i64 0, .bool false, .int .i64 0]) (by simp [results, Tryz.results137, go_sem]) rfl ⟨⟨_, rfl⟩, g, c', l', Q3, hp3, hl3, hH3, Hgg.out, fun bs hq hm hg => (Only.of_kp ((KW.trans K2).drew)).trans (HF.out bs hq hm hg)⟩
set_option maxRecDepth 100000 in
theorem vkK (B a q m g c n : Nat) (l : List Tw) (p : PI) (d : Int) (i : Nat) (hi : i < l.length) (w : World) (hA : Blk w a 152 #[.pointer (some ⟨q, 0, none⟩)]) (Q : QuM w B q m (.slice (some ⟨g, 0, none⟩) n c) l) (hln : l.length = n) (hx : (Tw.mk 3 p d).tk.wf) (hc : checkP p = 0) (hd0 : 0 ≤ d) (hd1 : d ≤ 4611686018427387904) (hn : l[i].tk = (Tw.mk 3 p d).tk) (hl : n ≤ 900000) (hH : Heap ltT (fT l) n) :
  Calls Tryz.prog 137 #[.pointer (some ⟨a, 0, none⟩), .agg #[.int .i64 3, .int .u32 (p.a : Int), .int .i64 p.l], .int .i64 d] w fun e w' => (∃ v, e = .returned v) ∧ ∃ l', QuM w' B q m (.slice (some ⟨g, 0, none⟩) n c) l' ∧ l'.Perm (l.set i ⟨3, p, d⟩) ∧ l'.length = n ∧ Heap ltT (fT l') n ∧ Only [g, m] w w' := by
 have haq : p.a < 4294967296 := hx.a
 obtain ⟨r, hr⟩ : ∃ r, w.heap.size = r := ⟨_, rfl⟩
 obtain ⟨W0, hW0, K0, BP⟩ := Blk.al1 hr #[.int .i64 3, .int .u32 (p.a : Int), .int .i64 p.l] 158
 have A0 := hA.keep K0
 have Q0 := Q.keep K0
 obtain ⟨p0, p1, p2⟩ := Blk.v3 BP (.int .i64 3) (.int .u32 p.a) (.int .i64 p.l) rfl
 have hz : ¬ d < 0 := by omega
 have hmx : ¬ 4611686018427387904 < d := by omega
 have hzb : decide (d < 0) = false := decide_eq_false hz
 have hmb : decide (4611686018427387904 < d) = false := decide_eq_false hmx
 have HC := Lib.hid (vaH p W0 haq)
 have HCc := Lib.hid hc
 have Hn := Lib.hid hn
 have i0 : (0 : Int) ≤ (i : Int) := by omega
 have i1 : (i : Int) < (n : Int) := by omega
 have gi : IntKind.i64.wrap (i : Int) = (i : Int) := IntWalk.i64_in _ (by omega)
 obtain ⟨z, hz0⟩ : ∃ z, l[i].d = z := ⟨_, rfl⟩
 have Hz := Lib.hid hz0
 clear hz0
 have HH := Lib.hid hH
 have Hln := Lib.hid hln
 have Hx := Lib.hid hx
 clear hH hx hln
 clear hc hn
 go_enter Tryz.func137, Tryz.ntmps137
 go_wp2_with fail
 refine van 0 rfl ?_
 go_wp2_with fail
 refine (vbh a q _ A0).mono ?_
 rintro e w1 ⟨rfl, rfl⟩
 go_wp2_with fail
 refine HC.out.mono ?_
 rintro e w1 ⟨rfl, K1⟩
 rw [if_pos HCc.out]
 have KW := K0.trans K1
 have A1 := A0.keep K1
 have Q1 := Q0.keep K1
 obtain ⟨f, hm, hpl⟩ := Q1.mp
 obtain ⟨v, hlook, hv⟩ := vei hm Hx.out
 have hf : f (Tw.mk 3 p d).tk = some i := by rw [← Hn.out]; exact hpl.at_ i hi
 obtain rfl := hv i hf
 rw [hf] at hlook
 have hlk : ∀ k, (Instr.lookup 147 (.map (some m)) (.agg #[.int .i64 3, .int .u32 (p.a : Int), .int .i64 p.l]) true).run Tryz.prog (w1.drewN k) = .ok (.tuple #[.int .i64 (i : Int), .bool true]) (w1.drewN k) := fun k => hlook _ rfl
 have B1 := BP.keep K1
 have q0 : w1.cell? ⟨a, 0, none⟩ = some (.pointer (some ⟨q, 0, none⟩)) := A1.cell 0
 have q1 : w1.cell? ⟨q, 1, none⟩ = some (.map (some m)) := Q1.bk.cell 1
 obtain ⟨u0, u1, u2⟩ := Blk.v3 B1 (.int .i64 3) (.int .u32 p.a) (.int .i64 p.l) rfl
 clear hlook hv
 go_wp2_with fail
 go_quiet (fail)
 obtain ⟨W2, hW2, K2⟩ : ∃ W2, w1.drewN nq = W2 ∧ Kp w1 W2 := ⟨_, rfl, (Kp.refl _).drewN _⟩
 rw [hW2]
 have A2 := A1.keep K2
 have Q2 := Q1.keep K2
 obtain ⟨b, off, hBe, x0, x1, x2, x3⟩ := tw_at (Q2.own.rdAt (by decide) Tw.len) hi
 injection hBe with hBe
 injection hBe with e1 e2
 subst e1
 subst e2
 rw [Nat.zero_add, Hz.out] at x3
 clear x0 x1 x2
 have hcn : c = c := rfl
 clear hW2 hlk q0 q1 u0 u1 u2 p0 p1 p2 hf hpl hm
 have q0 : W2.cell? ⟨a, 0, none⟩ = some (.pointer (some ⟨q, 0, none⟩)) := A2.cell 0
 have q1 : W2.cell? ⟨q, 0, none⟩ = some (.slice (some ⟨g, 0, none⟩) n c) := Q2.bk.cell 0
 have ice := Q2.own.ice (i * 4 + 3)
 obtain ⟨cur, hcur⟩ := Q2.own.blk4
 have hga : a ≠ g := A2.ne_tagT hcur (by decide)
 have hgq : q ≠ g := Q2.bk.ne_tagT hcur (by decide)
 have hO := Q2.own.putDue hi ⟨3, p, d⟩ Hn.out.symm
 have O2 : Only [g] W2 (W2.setCell ⟨g, i * 4 + 3, none⟩ (.int .i64 d)) := (Only.refl [g] W2).setCell (p := ⟨g, i * 4 + 3, none⟩) (.inl (by simp)) _
 go_wp2_with fail
 have hD : DownH ltT (fT (l.set i ⟨3, p, d⟩)) n i i := by
  refine Heap.put vbb HH.out (fun k hk hk0 => (vmD hi _).2 k hk0) (by omega)
 have Q4 : QuM (W2.setCell ⟨g, i * 4 + 3, none⟩ (.int .i64 d)) B q m (.slice (some ⟨g, 0, none⟩) n c) (l.set i ⟨3, p, d⟩) := by
  obtain ⟨f2, hm2, hp2⟩ := Q2.mp
  have hgm : m ≠ g := hm2.ne hcur
  refine ⟨Q2.bk.only O2 (by simpa using hgq), hO, ⟨f2, ?_, hp2.set_ hi _ Hn.out.symm⟩, fun t ht => ?_⟩
  ·rw [List.length_set]
   exact hm2.lie (O2.block m hm2.lt (by simpa using hgm))
  ·rcases List.mem_or_eq_of_mem_set ht with h | h
   ·exact Q2.wf t h
   ·rw [h]
    exact ⟨Hx.out, show wfI d from ⟨by omega, by omega⟩⟩
 refine (vfk B q m g c n (l.set i ⟨3, p, d⟩) i _ Q4 (by rw [List.length_set]; exact Hln.out) (by omega) (by omega) hD).mono ?_
 rintro e w3 ⟨rfl, l', Q3, hp3, hl3, hH3, O3⟩
 clear hD x3 q0 q1 ice
 go_wp2_with fail
 refine vaX ?_
 exact bodyPost_ret (v := .tuple #[.int .i64 z, .bool true, .int .i64 0]) (by simp [results, Tryz.results137, go_sem]) rfl ⟨⟨_, rfl⟩, l', Q3, hp3, hl3, hH3, ((Only.of_kp (KW.trans K2)).trans (O2.wide (by simp))).trans O3⟩
end

end Go.Proofs.YtffckpkikdlbpaaGreatDoor
