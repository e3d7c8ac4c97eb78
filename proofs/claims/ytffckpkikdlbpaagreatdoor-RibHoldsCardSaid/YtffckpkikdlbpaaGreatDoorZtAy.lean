/- Lemmas and contracts for the theorem of this claim: RoG. -/
import Derived.Test.YtffckpkikdlbpaaGreatDoorZtAw
set_option linter.unusedSimpArgs false
set_option linter.unusedVariables false
namespace Go.Proofs.YtffckpkikdlbpaaGreatDoor
open Go.RowKit
set_option maxRecDepth 100000 in
set_option maxHeartbeats 4000000 in
theorem rLose_any (c : Cf) (A : Option Addr) (m : Nat) (r : Rt) (now : Int) (w : World) (hS : SlPI w A m c.own) (hC : CapAt w) (ha : ∀ k (hk : k < c.own.length), c.own[k].a < 4294967296) (hp : r.p.a < 4294967296) (hx : r.x < 4294967296) :
    Calls Tryz.prog 68 #[cfV c A c.own.length m, roV r, .int .i64 now] w (RTellP (askR c r now) (loseR c r now) w) := by
  obtain ⟨b, hb⟩ : ∃ b, w.heap.size = b := ⟨_, rfl⟩
  obtain ⟨W0, hW0, k0, B0, B1⟩ : ∃ W, (w.alloc (.cells (cfC c A c.own.length m) 24)).alloc (.cells (roC r) 48) = W ∧ Kp w W ∧ Blk W b 24 (cfC c A c.own.length m) ∧ Blk W (b + 1) 48 (roC r) := ⟨_, rfl, ((Kp.refl _).alloc _).alloc _, by rw [← hb]; exact (Blk.new w _ _).alloc _, by rw [← hb]; exact Blk.new1 w _ _ _⟩
  have hs0 : W0.heap.size = b + 1 + 1 := by rw [← hW0, ← hb]; simp
  obtain ⟨W, hW, kW, C0, C1, C3, C4⟩ : ∃ W, (W0.alloc (.cells zero9 48)).alloc (.cells #[.int .i64 0] 53) = W ∧ Kp w W ∧ Blk W b 24 (cfC c A c.own.length m) ∧ Blk W (b + 1) 48 (roC r) ∧ Blk W (b + 1 + 1) 48 zero9 ∧ Blk W (b + 1 + 1 + 1) 53 #[.int .i64 0] := ⟨_, rfl, (k0.alloc _).alloc _, (B0.alloc _).alloc _, (B1.alloc _).alloc _, by rw [← hs0]; exact (Blk.new _ _ _).alloc _, by rw [← hs0]; exact Blk.new1 _ _ _ _⟩
  unfold cfC roC at hW0
  unfold zero9 at hW
  clear B0 B1 k0
  have hlt := C4.lt
  have xc0 : W.cell? ⟨b, 0, none⟩ = some (.int .i64 c.t0) := C0.cell 0
  have xc1 : W.cell? ⟨b, 1, none⟩ = some (.int .i64 c.t1) := C0.cell 1
  have xc2 : W.cell? ⟨b, 2, none⟩ = some (.int .i64 c.t2) := C0.cell 2
  have xc3 : W.cell? ⟨b, 3, none⟩ = some (.int .i64 c.t3) := C0.cell 3
  have xc4 : W.cell? ⟨b, 4, none⟩ = some (.int .i64 c.t4) := C0.cell 4
  have xc5 : W.cell? ⟨b, 5, none⟩ = some (.int .i64 c.t5) := C0.cell 5
  have xc6 : W.cell? ⟨b, 6, none⟩ = some (.int .i64 c.t6) := C0.cell 6
  have xc7 : W.cell? ⟨b, 7, none⟩ = some (.int .i64 c.cap) := C0.cell 7
  have xc8 : W.cell? ⟨b, 8, none⟩ = some (.slice A c.own.length m) := C0.cell 8
  have xp0 : W.cell? ⟨b + 1, 0, none⟩ = some (.int .u32 (r.p.a : Int)) := C1.cell 0
  have xp1 : W.cell? ⟨b + 1, 1, none⟩ = some (.int .i64 r.p.l) := C1.cell 1
  have xp2 : W.cell? ⟨b + 1, 2, none⟩ = some (.int .i64 r.s) := C1.cell 2
  have xp3 : W.cell? ⟨b + 1, 3, none⟩ = some (.int .i64 r.m) := C1.cell 3
  have xp4 : W.cell? ⟨b + 1, 4, none⟩ = some (.int .i64 r.l) := C1.cell 4
  have xp5 : W.cell? ⟨b + 1, 5, none⟩ = some (.int .i64 r.f) := C1.cell 5
  have xp6 : W.cell? ⟨b + 1, 6, none⟩ = some (.int .u32 (r.x : Int)) := C1.cell 6
  have xp7 : W.cell? ⟨b + 1, 7, none⟩ = some (.int .i64 r.d) := C1.cell 7
  have xp8 : W.cell? ⟨b + 1, 8, none⟩ = some (.bool r.c) := C1.cell 8
  have hbo : bothB c r = (okCf c && okR r) := rfl
  go_enter_defers Tryz.func68, Tryz.ntmps68
  go_wp2_with fail
  refine (mustBoth_any c A m r _ (hS.keep kW) (hC.keep kW) ha hp hx).mono ?_
  rintro e w1 ⟨hY, hN, K1⟩
  have D0 := C0.keep K1
  have D1 := C1.keep K1
  have D3 := C3.keep K1
  have D4 := C4.keep K1
  have k1 := kW.trans K1
  clear xc0 xc1 xc2 xc3 xc4 xc5 xc6 xc7 xc8 xp0 xp1 xp2 xp3 xp4 xp5 xp6 xp7 xp8 hW hW0 C0 C1 C3 C4 K1
  rcases hb1 : bothB c r with _ | _
  · obtain rfl := hN hb1
    have HN := Lib.hid (show askR c r now = 2 by unfold askR; rw [← hbo, hb1]; rfl)
    clear hY hN
    go_wp2_with fail
    refine leaves_cons (f := 109) (args := #[.pointer (some ⟨b + 1 + 1, 0, none⟩), .pointer (some ⟨b + 1 + 1 + 1, 0, none⟩)]) (by simp) (by simp [go_sem]) ?_
    refine (catch_rlose (b + 1 + 1) (b + 1 + 1 + 1) _ _ _ _ _ _ _ _ _ _ 2 _ D3 D4 (by omega)).mono ?_
    rintro e u' wz ⟨rfl, rfl, C0, C1, hO⟩
    have q0 : wz.cell? ⟨b + 1 + 1, 0, none⟩ = some (.int .u32 0) := C0.cell 0
    have q1 : wz.cell? ⟨b + 1 + 1, 1, none⟩ = some (.int .i64 0) := C0.cell 1
    have q2 : wz.cell? ⟨b + 1 + 1, 2, none⟩ = some (.int .i64 0) := C0.cell 2
    have q3 : wz.cell? ⟨b + 1 + 1, 3, none⟩ = some (.int .i64 0) := C0.cell 3
    have q4 : wz.cell? ⟨b + 1 + 1, 4, none⟩ = some (.int .i64 0) := C0.cell 4
    have q5 : wz.cell? ⟨b + 1 + 1, 5, none⟩ = some (.int .i64 0) := C0.cell 5
    have q6 : wz.cell? ⟨b + 1 + 1, 6, none⟩ = some (.int .u32 0) := C0.cell 6
    have q7 : wz.cell? ⟨b + 1 + 1, 7, none⟩ = some (.int .i64 0) := C0.cell 7
    have q8 : wz.cell? ⟨b + 1 + 1, 8, none⟩ = some (.bool false) := C0.cell 8
    have q9 : wz.cell? ⟨b + 1 + 1 + 1, 0, none⟩ = some (.int .i64 2) := C1.cell 0
    show Leaves _ _ _ _ [] .returning _
    exact ⟨.tuple #[roV zeroR, .int .i64 2], by simp [results, Tryz.results68, go_sem, zeroR, noR, q0, q1, q2, q3, q4, q5, q6, q7, q8, q9], RTellP.no HN.out (by decide) (hO.kp k1 (by simp; omega))⟩
  obtain rfl := hY hb1
  clear hY hN
  go_wp2_with fail
  refine (mustNow_any now _).mono ?_
  rintro e w3 ⟨hY, hN, K3⟩
  have F0 := D0.keep K3
  have F1 := D1.keep K3
  have F3 := D3.keep K3
  have F4 := D4.keep K3
  have k3 := k1.trans K3
  clear D0 D1 D3 D4 K3 k1
  rcases hb3 : okNow now with _ | _
  · obtain rfl := hN hb3
    have HN := Lib.hid (show askR c r now = 170 by unfold askR; rw [← hbo, hb1, hb3]; rfl)
    clear hY hN
    go_wp2_with fail
    refine leaves_cons (f := 109) (args := #[.pointer (some ⟨b + 1 + 1, 0, none⟩), .pointer (some ⟨b + 1 + 1 + 1, 0, none⟩)]) (by simp) (by simp [go_sem]) ?_
    refine (catch_rlose (b + 1 + 1) (b + 1 + 1 + 1) _ _ _ _ _ _ _ _ _ _ 170 _ F3 F4 (by omega)).mono ?_
    rintro e u' wz ⟨rfl, rfl, C0, C1, hO⟩
    have q0 : wz.cell? ⟨b + 1 + 1, 0, none⟩ = some (.int .u32 0) := C0.cell 0
    have q1 : wz.cell? ⟨b + 1 + 1, 1, none⟩ = some (.int .i64 0) := C0.cell 1
    have q2 : wz.cell? ⟨b + 1 + 1, 2, none⟩ = some (.int .i64 0) := C0.cell 2
    have q3 : wz.cell? ⟨b + 1 + 1, 3, none⟩ = some (.int .i64 0) := C0.cell 3
    have q4 : wz.cell? ⟨b + 1 + 1, 4, none⟩ = some (.int .i64 0) := C0.cell 4
    have q5 : wz.cell? ⟨b + 1 + 1, 5, none⟩ = some (.int .i64 0) := C0.cell 5
    have q6 : wz.cell? ⟨b + 1 + 1, 6, none⟩ = some (.int .u32 0) := C0.cell 6
    have q7 : wz.cell? ⟨b + 1 + 1, 7, none⟩ = some (.int .i64 0) := C0.cell 7
    have q8 : wz.cell? ⟨b + 1 + 1, 8, none⟩ = some (.bool false) := C0.cell 8
    have q9 : wz.cell? ⟨b + 1 + 1 + 1, 0, none⟩ = some (.int .i64 170) := C1.cell 0
    show Leaves _ _ _ _ [] .returning _
    exact ⟨.tuple #[roV zeroR, .int .i64 170], by simp [results, Tryz.results68, go_sem, zeroR, noR, q0, q1, q2, q3, q4, q5, q6, q7, q8, q9], RTellP.no HN.out (by decide) (hO.kp k3 (by simp; omega))⟩
  obtain rfl := hY hb3
  clear hY hN
  have HN := Lib.hid (show askR c r now = 0 by unfold askR; rw [← hbo, hb1, hb3]; rfl)
  rw [hbo, Bool.and_eq_true] at hb1
  have hrr := (okR_iff r).1 hb1.2
  have t3 := okCf_t hb1.1 3 (by omega)
  have t4 := okCf_t hb1.1 4 (by omega)
  simp only [leastS, Cf.t] at t3 t4
  rw [okNow, withB_iff] at hb3
  have hn0 : 0 ≤ now := hb3.1
  have hn1 : now ≤ 4611686018427387904 := by omega
  have ss := stateB_s hrr.2
  clear hb1 hbo
  have xc0 : w3.cell? ⟨b, 0, none⟩ = some (.int .i64 c.t0) := F0.cell 0
  have xc1 : w3.cell? ⟨b, 1, none⟩ = some (.int .i64 c.t1) := F0.cell 1
  have xc2 : w3.cell? ⟨b, 2, none⟩ = some (.int .i64 c.t2) := F0.cell 2
  have xc3 : w3.cell? ⟨b, 3, none⟩ = some (.int .i64 c.t3) := F0.cell 3
  have xc4 : w3.cell? ⟨b, 4, none⟩ = some (.int .i64 c.t4) := F0.cell 4
  have xc5 : w3.cell? ⟨b, 5, none⟩ = some (.int .i64 c.t5) := F0.cell 5
  have xc6 : w3.cell? ⟨b, 6, none⟩ = some (.int .i64 c.t6) := F0.cell 6
  have xc7 : w3.cell? ⟨b, 7, none⟩ = some (.int .i64 c.cap) := F0.cell 7
  have xc8 : w3.cell? ⟨b, 8, none⟩ = some (.slice A c.own.length m) := F0.cell 8
  have xp0 : w3.cell? ⟨b + 1, 0, none⟩ = some (.int .u32 (r.p.a : Int)) := F1.cell 0
  have xp1 : w3.cell? ⟨b + 1, 1, none⟩ = some (.int .i64 r.p.l) := F1.cell 1
  have xp2 : w3.cell? ⟨b + 1, 2, none⟩ = some (.int .i64 r.s) := F1.cell 2
  have xp3 : w3.cell? ⟨b + 1, 3, none⟩ = some (.int .i64 r.m) := F1.cell 3
  have xp4 : w3.cell? ⟨b + 1, 4, none⟩ = some (.int .i64 r.l) := F1.cell 4
  have xp5 : w3.cell? ⟨b + 1, 5, none⟩ = some (.int .i64 r.f) := F1.cell 5
  have xp6 : w3.cell? ⟨b + 1, 6, none⟩ = some (.int .u32 (r.x : Int)) := F1.cell 6
  have xp7 : w3.cell? ⟨b + 1, 7, none⟩ = some (.int .i64 r.d) := F1.cell 7
  have xp8 : w3.cell? ⟨b + 1, 8, none⟩ = some (.bool r.c) := F1.cell 8
  by_cases h2 : r.s = 2
  · have e2 := beqT h2
    have hf : loseR c r now = lostR c r now := by unfold loseR; rw [if_pos h2]
    obtain ⟨x, hxx⟩ : ∃ x, lostR c r now = x := ⟨_, rfl⟩
    have HZ := Lib.hid (hf.trans hxx)
    have HX := Lib.hid hxx
    clear hxx hf ss h2
    go_wp2_with fail
    have HL := lost_any c A c.own.length m r now w3 hn0 hn1 (by omega) t3.2
    rw [HX.out] at HL
    refine HL.mono ?_
    rintro e w4 ⟨rfl, K4⟩
    have G3 := F3.keep K4
    have G4 := F4.keep K4
    have k4 := k3.trans K4
    clear xc0 xc1 xc2 xc3 xc4 xc5 xc6 xc7 xc8 xp0 xp1 xp2 xp3 xp4 xp5 xp6 xp7 xp8 F0 F1 F3 F4 K4 k3
    have q0 : w4.cell? ⟨b + 1 + 1, 0, none⟩ = some (.int .u32 0) := G3.cell 0
    have q1 : w4.cell? ⟨b + 1 + 1, 1, none⟩ = some (.int .i64 0) := G3.cell 1
    have q2 : w4.cell? ⟨b + 1 + 1, 2, none⟩ = some (.int .i64 0) := G3.cell 2
    have q3 : w4.cell? ⟨b + 1 + 1, 3, none⟩ = some (.int .i64 0) := G3.cell 3
    have q4 : w4.cell? ⟨b + 1 + 1, 4, none⟩ = some (.int .i64 0) := G3.cell 4
    have q5 : w4.cell? ⟨b + 1 + 1, 5, none⟩ = some (.int .i64 0) := G3.cell 5
    have q6 : w4.cell? ⟨b + 1 + 1, 6, none⟩ = some (.int .u32 0) := G3.cell 6
    have q7 : w4.cell? ⟨b + 1 + 1, 7, none⟩ = some (.int .i64 0) := G3.cell 7
    have q8 : w4.cell? ⟨b + 1 + 1, 8, none⟩ = some (.bool false) := G3.cell 8
    have z0 := G3.frozen 0
    have z1 := G3.frozen 1
    have z2 := G3.frozen 2
    have z3 := G3.frozen 3
    have z4 := G3.frozen 4
    have z5 := G3.frozen 5
    have z6 := G3.frozen 6
    have z7 := G3.frozen 7
    have z8 := G3.frozen 8
    have d0 : w4.cell? ⟨b + 1 + 1 + 1, 0, none⟩ = some (.int .i64 0) := G4.cell 0
    have zd := G4.frozen 0
    obtain ⟨R, hR, BR, BE, kR⟩ : ∃ R, ((((((((((w4.setCell ⟨b + 1 + 1, 0, none⟩ (.int .u32 (x.p.a : Int))).setCell ⟨b + 1 + 1, 1, none⟩ (.int .i64 x.p.l)).setCell ⟨b + 1 + 1, 2, none⟩ (.int .i64 x.s)).setCell ⟨b + 1 + 1, 3, none⟩ (.int .i64 x.m)).setCell ⟨b + 1 + 1, 4, none⟩ (.int .i64 x.l)).setCell ⟨b + 1 + 1, 5, none⟩ (.int .i64 x.f)).setCell ⟨b + 1 + 1, 6, none⟩ (.int .u32 (x.x : Int))).setCell ⟨b + 1 + 1, 7, none⟩ (.int .i64 x.d)).setCell ⟨b + 1 + 1, 8, none⟩ (.bool x.c)).setCell ⟨b + 1 + 1 + 1, 0, none⟩ (.int .i64 0)) = R ∧ Blk R (b + 1 + 1) 48 (roC x) ∧ Blk R (b + 1 + 1 + 1) 53 #[.int .i64 0] ∧ Kp w R :=
      ⟨_, rfl, (Blk.putRo G3 x).far (p := ⟨b + 1 + 1 + 1, 0, none⟩) (by show b + 1 + 1 ≠ b + 1 + 1 + 1; omega) _, (((((((((G4.far (p := ⟨b + 1 + 1, 0, none⟩) (by show b + 1 + 1 + 1 ≠ b + 1 + 1; omega) (.int .u32 (x.p.a : Int))).far (p := ⟨b + 1 + 1, 1, none⟩) (by show b + 1 + 1 + 1 ≠ b + 1 + 1; omega) (.int .i64 x.p.l)).far (p := ⟨b + 1 + 1, 2, none⟩) (by show b + 1 + 1 + 1 ≠ b + 1 + 1; omega) (.int .i64 x.s)).far (p := ⟨b + 1 + 1, 3, none⟩) (by show b + 1 + 1 + 1 ≠ b + 1 + 1; omega) (.int .i64 x.m)).far (p := ⟨b + 1 + 1, 4, none⟩) (by show b + 1 + 1 + 1 ≠ b + 1 + 1; omega) (.int .i64 x.l)).far (p := ⟨b + 1 + 1, 5, none⟩) (by show b + 1 + 1 + 1 ≠ b + 1 + 1; omega) (.int .i64 x.f)).far (p := ⟨b + 1 + 1, 6, none⟩) (by show b + 1 + 1 + 1 ≠ b + 1 + 1; omega) (.int .u32 (x.x : Int))).far (p := ⟨b + 1 + 1, 7, none⟩) (by show b + 1 + 1 + 1 ≠ b + 1 + 1; omega) (.int .i64 x.d)).far (p := ⟨b + 1 + 1, 8, none⟩) (by show b + 1 + 1 + 1 ≠ b + 1 + 1; omega) (.bool x.c)).set_ 0 (.int .i64 0), (Kp.putRo k4 (by omega) x).setCell (p := ⟨b + 1 + 1 + 1, 0, none⟩) (by show w.heap.size ≤ b + 1 + 1 + 1; omega) _⟩
    go_wp2_with fail
    clear q0 q1 q2 q3 q4 q5 q6 q7 q8
    obtain ⟨q0, q1, q2, q3, q4, q5, q6, q7, q8⟩ := ro_cells BR
    have q9 : R.cell? ⟨b + 1 + 1 + 1, 0, none⟩ = some (.int .i64 0) := BE.cell 0
    refine leaves_cons (f := 109) (args := #[.pointer (some ⟨b + 1 + 1, 0, none⟩), .pointer (some ⟨b + 1 + 1 + 1, 0, none⟩)]) (by simp) (by simp [go_sem]) ?_
    refine (idle_rlose _ _ _).mono ?_
    rintro e u' wz ⟨rfl, rfl, rfl⟩
    show Leaves _ _ _ _ [] .returning _
    exact ⟨.tuple #[roV x, .int .i64 0], by simp [results, Tryz.results68, go_sem, q0, q1, q2, q3, q4, q5, q6, q7, q8, q9], by first | exact RTellP.yes HN.out kR | (rw [HZ.out]; exact RTellP.yes HN.out kR)⟩
  · have e2 := beqF h2
    have hf : loseR c r now = r := by unfold loseR; rw [if_neg h2]
    have HZ := Lib.hid hf
    clear hf ss
    have q0 : w3.cell? ⟨b + 1 + 1, 0, none⟩ = some (.int .u32 0) := F3.cell 0
    have q1 : w3.cell? ⟨b + 1 + 1, 1, none⟩ = some (.int .i64 0) := F3.cell 1
    have q2 : w3.cell? ⟨b + 1 + 1, 2, none⟩ = some (.int .i64 0) := F3.cell 2
    have q3 : w3.cell? ⟨b + 1 + 1, 3, none⟩ = some (.int .i64 0) := F3.cell 3
    have q4 : w3.cell? ⟨b + 1 + 1, 4, none⟩ = some (.int .i64 0) := F3.cell 4
    have q5 : w3.cell? ⟨b + 1 + 1, 5, none⟩ = some (.int .i64 0) := F3.cell 5
    have q6 : w3.cell? ⟨b + 1 + 1, 6, none⟩ = some (.int .u32 0) := F3.cell 6
    have q7 : w3.cell? ⟨b + 1 + 1, 7, none⟩ = some (.int .i64 0) := F3.cell 7
    have q8 : w3.cell? ⟨b + 1 + 1, 8, none⟩ = some (.bool false) := F3.cell 8
    have z0 := F3.frozen 0
    have z1 := F3.frozen 1
    have z2 := F3.frozen 2
    have z3 := F3.frozen 3
    have z4 := F3.frozen 4
    have z5 := F3.frozen 5
    have z6 := F3.frozen 6
    have z7 := F3.frozen 7
    have z8 := F3.frozen 8
    have d0 : w3.cell? ⟨b + 1 + 1 + 1, 0, none⟩ = some (.int .i64 0) := F4.cell 0
    have zd := F4.frozen 0
    obtain ⟨R, hR, BR, BE, kR⟩ : ∃ R, ((((((((((w3.setCell ⟨b + 1 + 1, 0, none⟩ (.int .u32 (r.p.a : Int))).setCell ⟨b + 1 + 1, 1, none⟩ (.int .i64 r.p.l)).setCell ⟨b + 1 + 1, 2, none⟩ (.int .i64 r.s)).setCell ⟨b + 1 + 1, 3, none⟩ (.int .i64 r.m)).setCell ⟨b + 1 + 1, 4, none⟩ (.int .i64 r.l)).setCell ⟨b + 1 + 1, 5, none⟩ (.int .i64 r.f)).setCell ⟨b + 1 + 1, 6, none⟩ (.int .u32 (r.x : Int))).setCell ⟨b + 1 + 1, 7, none⟩ (.int .i64 r.d)).setCell ⟨b + 1 + 1, 8, none⟩ (.bool r.c)).setCell ⟨b + 1 + 1 + 1, 0, none⟩ (.int .i64 0)) = R ∧ Blk R (b + 1 + 1) 48 (roC r) ∧ Blk R (b + 1 + 1 + 1) 53 #[.int .i64 0] ∧ Kp w R :=
      ⟨_, rfl, (Blk.putRo F3 r).far (p := ⟨b + 1 + 1 + 1, 0, none⟩) (by show b + 1 + 1 ≠ b + 1 + 1 + 1; omega) _, (((((((((F4.far (p := ⟨b + 1 + 1, 0, none⟩) (by show b + 1 + 1 + 1 ≠ b + 1 + 1; omega) (.int .u32 (r.p.a : Int))).far (p := ⟨b + 1 + 1, 1, none⟩) (by show b + 1 + 1 + 1 ≠ b + 1 + 1; omega) (.int .i64 r.p.l)).far (p := ⟨b + 1 + 1, 2, none⟩) (by show b + 1 + 1 + 1 ≠ b + 1 + 1; omega) (.int .i64 r.s)).far (p := ⟨b + 1 + 1, 3, none⟩) (by show b + 1 + 1 + 1 ≠ b + 1 + 1; omega) (.int .i64 r.m)).far (p := ⟨b + 1 + 1, 4, none⟩) (by show b + 1 + 1 + 1 ≠ b + 1 + 1; omega) (.int .i64 r.l)).far (p := ⟨b + 1 + 1, 5, none⟩) (by show b + 1 + 1 + 1 ≠ b + 1 + 1; omega) (.int .i64 r.f)).far (p := ⟨b + 1 + 1, 6, none⟩) (by show b + 1 + 1 + 1 ≠ b + 1 + 1; omega) (.int .u32 (r.x : Int))).far (p := ⟨b + 1 + 1, 7, none⟩) (by show b + 1 + 1 + 1 ≠ b + 1 + 1; omega) (.int .i64 r.d)).far (p := ⟨b + 1 + 1, 8, none⟩) (by show b + 1 + 1 + 1 ≠ b + 1 + 1; omega) (.bool r.c)).set_ 0 (.int .i64 0), (Kp.putRo k3 (by omega) r).setCell (p := ⟨b + 1 + 1 + 1, 0, none⟩) (by show w.heap.size ≤ b + 1 + 1 + 1; omega) _⟩
    go_wp2_with fail
    clear q0 q1 q2 q3 q4 q5 q6 q7 q8
    obtain ⟨q0, q1, q2, q3, q4, q5, q6, q7, q8⟩ := ro_cells BR
    have q9 : R.cell? ⟨b + 1 + 1 + 1, 0, none⟩ = some (.int .i64 0) := BE.cell 0
    refine leaves_cons (f := 109) (args := #[.pointer (some ⟨b + 1 + 1, 0, none⟩), .pointer (some ⟨b + 1 + 1 + 1, 0, none⟩)]) (by simp) (by simp [go_sem]) ?_
    refine (idle_rlose _ _ _).mono ?_
    rintro e u' wz ⟨rfl, rfl, rfl⟩
    show Leaves _ _ _ _ [] .returning _
    exact ⟨.tuple #[roV r, .int .i64 0], by simp [results, Tryz.results68, go_sem, q0, q1, q2, q3, q4, q5, q6, q7, q8, q9], by first | exact RTellP.yes HN.out kR | (rw [HZ.out]; exact RTellP.yes HN.out kR)⟩
end Go.Proofs.YtffckpkikdlbpaaGreatDoor
