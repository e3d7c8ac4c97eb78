/- Lemmas and contracts for the theorem of this claim: RoF, RoE, TmQ. -/
import Derived.Test.YtgopnfacklmkaaaGreatDoorZzAn
set_option linter.all false
set_option maxHeartbeats 16000000
namespace Go.Proofs.YtgopnfacklmkaaaGreatDoor
section
open Go.RowKit
set_option maxRecDepth 100000 in
theorem vhe (c : Cf) (A : Option Addr) (m : Nat) (r : Rt) (now : Int) (w : World) (hS : SlPI w A m c.own) (hC : CapAt w) (ha : ∀ k (hk : k < c.own.length), c.own[k].a < 4294967296) (hp : r.p.a < 4294967296) (hx : r.x < 4294967296) :
  Calls Tryz.prog 80 #[cfV c A c.own.length m, roV r, .int .i64 now] w (RTellP (askR c r now) (expR c r now) w) := by
 obtain ⟨b, hb⟩ : ∃ b, w.heap.size = b := ⟨_, rfl⟩
 obtain ⟨W0, hW0, k0, B0, B1⟩ := Blk.al2 hb (cfC c A c.own.length m) 49 (roC r) 52
 have hs0 : W0.heap.size = b + 1 + 1 := by rw [← hW0, ← hb]; simp
 obtain ⟨W, hW, kW, C0, C1, C3, C4⟩ : ∃ W, (W0.alloc (.cells zero9 52)).alloc (.cells #[.int .i64 0] 44) = W ∧ Kp w W ∧ Blk W b 49 (cfC c A c.own.length m) ∧ Blk W (b + 1) 52 (roC r) ∧ Blk W (b + 1 + 1) 52 zero9 ∧ Blk W (b + 1 + 1 + 1) 44 #[.int .i64 0] := ⟨_, rfl, (k0.alloc _).alloc _, (B0.alloc _).alloc _, (B1.alloc _).alloc _, by rw [← hs0]; exact (Blk.new _ _ _).alloc _, by rw [← hs0]; exact Blk.new1 _ _ _ _⟩
 unfold cfC roC at hW0
 unfold zero9 at hW
 clear B0 B1 k0
 have hlt := C4.lt
 have xc0 := Blk.f C0 rfl
 have xp0 := Blk.f C1 rfl
 have hbo : bothB c r = (okCf c && okR r) := rfl
 go_enter_defers Tryz.func80, Tryz.ntmps80
 go_wp2_with fail
 refine (vcZ c A m r _ (hS.keep kW) (hC.keep kW) ha hp hx).mono ?_
 rintro e w1 ⟨hY, hN, K1⟩
 have D0 := C0.keep K1
 have D1 := C1.keep K1
 have D3 := C3.keep K1
 have D4 := C4.keep K1
 have k1 := kW.trans K1
 clear xc0 xp0 hW hW0 C0 C1 C3 C4 K1
 rcases hb1 : bothB c r with _ | _
 ·obtain rfl := hN hb1
  have HN := Lib.hid (show askR c r now = 2 by unfold askR; rw [← hbo, hb1]; rfl)
  clear hY hN
  go_wp2_with fail
  refine leaves_cons (f := 144) (args := #[.pointer (some ⟨b + 1 + 1, 0, none⟩), .pointer (some ⟨b + 1 + 1 + 1, 0, none⟩)]) (by simp) (by simp [go_sem]) ?_
  refine (vev (b + 1 + 1) (b + 1 + 1 + 1) _ _ _ _ _ _ _ _ _ _ 2 _ D3 D4 (by omega)).mono ?_
  rintro e u' wz ⟨rfl, rfl, C0, C1, hO⟩
  obtain ⟨q0, q1, q2, q3, q4, q5, q6, q7, q8⟩ := Blk.v9 C0 (.int .u32 0) (.int .i64 0) (.int .i64 0) (.int .i64 0) (.int .i64 0) (.int .i64 0) (.int .u32 0) (.int .i64 0) (.bool false) rfl
  have q9 : wz.cell? ⟨b + 1 + 1 + 1, 0, none⟩ = some (.int .i64 2) := C1.cell 0
  show Leaves _ _ _ _ [] .returning _
  exact ⟨.tuple #[roV zeroR, .int .i64 2], by simp [results, Tryz.results80, go_sem, zeroR, noR, q0, q1, q2, q3, q4, q5, q6, q7, q8, q9], RTellP.no HN.out (by decide) (hO.kp k1 (by simp; omega))⟩
 obtain rfl := hY hb1
 clear hY hN
 go_wp2_with fail
 refine (vdH now _).mono ?_
 rintro e w3 ⟨hY, hN, K3⟩
 have F0 := D0.keep K3
 have F1 := D1.keep K3
 have F3 := D3.keep K3
 have F4 := D4.keep K3
 have k3 := k1.trans K3
 clear D0 D1 D3 D4 K3 k1
 rcases hb3 : okNow now with _ | _
 ·obtain rfl := hN hb3
  have HN := Lib.hid (show askR c r now = 170 by unfold askR; rw [← hbo, hb1, hb3]; rfl)
  clear hY hN
  go_wp2_with fail
  refine leaves_cons (f := 144) (args := #[.pointer (some ⟨b + 1 + 1, 0, none⟩), .pointer (some ⟨b + 1 + 1 + 1, 0, none⟩)]) (by simp) (by simp [go_sem]) ?_
  refine (vev (b + 1 + 1) (b + 1 + 1 + 1) _ _ _ _ _ _ _ _ _ _ 170 _ F3 F4 (by omega)).mono ?_
  rintro e u' wz ⟨rfl, rfl, C0, C1, hO⟩
  obtain ⟨q0, q1, q2, q3, q4, q5, q6, q7, q8⟩ := Blk.v9 C0 (.int .u32 0) (.int .i64 0) (.int .i64 0) (.int .i64 0) (.int .i64 0) (.int .i64 0) (.int .u32 0) (.int .i64 0) (.bool false) rfl
  have q9 : wz.cell? ⟨b + 1 + 1 + 1, 0, none⟩ = some (.int .i64 170) := C1.cell 0
  show Leaves _ _ _ _ [] .returning _
  exact ⟨.tuple #[roV zeroR, .int .i64 170], by simp [results, Tryz.results80, go_sem, zeroR, noR, q0, q1, q2, q3, q4, q5, q6, q7, q8, q9], RTellP.no HN.out (by decide) (hO.kp k3 (by simp; omega))⟩
 obtain rfl := hY hb3
 clear hY hN
 have HN := Lib.hid (show askR c r now = 0 by unfold askR; rw [← hbo, hb1, hb3]; rfl)
 rw [hbo, Bool.and_eq_true] at hb1
 have hrr := (vaq r).1 hb1.2
 have t3 := vbJ hb1.1 3 (by omega)
 have t4 := vbJ hb1.1 4 (by omega)
 simp only [leastS, Cf.t] at t3 t4
 rw [okNow, vaa] at hb3
 have hn0 : 0 ≤ now := hb3.1
 have hn1 : now ≤ 4611686018427387904 := by omega
 have ss := vbh hrr.2
 clear hb1 hbo
 have xc0 := Blk.f F0 rfl
 have xp0 := Blk.f F1 rfl
 have hht : timedB r = decide (2 ≤ r.s) := by
  unfold timedB
  rcases ss with h | h | h | h | h <;> rw [h] <;> rfl
 obtain ⟨d, hd⟩ : ∃ d, w3.heap.size = d := ⟨_, rfl⟩
 have hbd : b + 1 + 1 + 1 < d := by have := F4.lt; omega
 obtain ⟨W4, hW4, k4, G0, G1, G3, G4, G5⟩ : ∃ W4, w3.alloc (.cells (roC r) 255) = W4 ∧ Kp w W4 ∧ Blk W4 b 49 (cfC c A c.own.length m) ∧ Blk W4 (b + 1) 52 (roC r) ∧ Blk W4 (b + 1 + 1) 52 zero9 ∧ Blk W4 (b + 1 + 1 + 1) 44 #[.int .i64 0] ∧ Blk W4 d 255 (roC r) := ⟨_, rfl, k3.alloc _, F0.alloc _, F1.alloc _, F3.alloc _, F4.alloc _, by rw [← hd]; exact Blk.new _ _ _⟩
 unfold roC at hW4
 have y0 := Blk.f G5 rfl
 go_wp2_with fail
 clear xc0 xp0 y0 hW4 F0 F1 F3 F4 k3
 refine (vjv r _).mono ?_
 rintro e w5 ⟨rfl, K5⟩
 have I0 := G0.keep K5
 have I1 := G1.keep K5
 have I3 := G3.keep K5
 have I4 := G4.keep K5
 have I5 := G5.keep K5
 have k5 := k4.trans K5
 clear G0 G1 G3 G4 G5 K5 k4
 have y7 := Blk.f I5 rfl
 have xc0 := Blk.f I0 rfl
 have xp0 := Blk.f I1 rfl
 by_cases h1 : r.s < 2
 ·have ht : timedB r = false := by rw [hht]; exact decide_eq_false (by omega)
  have hf : expR c r now = r := by unfold expR; rw [if_pos (.inl h1)]
  have HZ := Lib.hid hf
  rw [ht]
  clear hf ht hht ss
  obtain ⟨q0, q1, q2, q3, q4, q5, q6, q7, q8⟩ := Blk.v9 I3 (.int .u32 0) (.int .i64 0) (.int .i64 0) (.int .i64 0) (.int .i64 0) (.int .i64 0) (.int .u32 0) (.int .i64 0) (.bool false) rfl
  have z0 := Blk.frozen I3
  have d0 : w5.cell? ⟨b + 1 + 1 + 1, 0, none⟩ = some (.int .i64 0) := I4.cell 0
  have zd := Blk.frozen I4
  obtain ⟨R, hR, BR, BE, kR⟩ := Blk.put10 I3 r I4 (by omega) (v := .int .i64 0) k5 (by omega) (by omega)
  simp only [roSet] at hR
  go_wp2_with fail
  clear q0 q1 q2 q3 q4 q5 q6 q7 q8
  obtain ⟨q0, q1, q2, q3, q4, q5, q6, q7, q8⟩ := vae BR
  have q9 : R.cell? ⟨b + 1 + 1 + 1, 0, none⟩ = some (.int .i64 0) := BE.cell 0
  refine leaves_cons (f := 144) (args := #[.pointer (some ⟨b + 1 + 1, 0, none⟩), .pointer (some ⟨b + 1 + 1 + 1, 0, none⟩)]) (by simp) (by simp [go_sem]) ?_
  refine (vbL _ _ _).mono ?_
  rintro e u' wz ⟨rfl, rfl, rfl⟩
  show Leaves _ _ _ _ [] .returning _
  exact ⟨.tuple #[roV r, .int .i64 0], by simp [results, Tryz.results80, go_sem, q0, q1, q2, q3, q4, q5, q6, q7, q8, q9], by first | exact RTellP.yes HN.out kR | (rw [HZ.out]; exact RTellP.yes HN.out kR)⟩
 have ht : timedB r = true := by rw [hht]; exact decide_eq_true (by omega)
 rw [ht]
 clear ht hht
 by_cases h0 : now < r.d
 ·have hdd : decide (now < r.d) = true := decide_eq_true h0
  have hf : expR c r now = r := by unfold expR; rw [if_pos (.inr h0)]
  have HZ := Lib.hid hf
  clear hf ss
  obtain ⟨q0, q1, q2, q3, q4, q5, q6, q7, q8⟩ := Blk.v9 I3 (.int .u32 0) (.int .i64 0) (.int .i64 0) (.int .i64 0) (.int .i64 0) (.int .i64 0) (.int .u32 0) (.int .i64 0) (.bool false) rfl
  have z0 := Blk.frozen I3
  have d0 : w5.cell? ⟨b + 1 + 1 + 1, 0, none⟩ = some (.int .i64 0) := I4.cell 0
  have zd := Blk.frozen I4
  obtain ⟨R, hR, BR, BE, kR⟩ := Blk.put10 I3 r I4 (by omega) (v := .int .i64 0) k5 (by omega) (by omega)
  simp only [roSet] at hR
  go_wp2_with fail
  clear q0 q1 q2 q3 q4 q5 q6 q7 q8
  obtain ⟨q0, q1, q2, q3, q4, q5, q6, q7, q8⟩ := vae BR
  have q9 : R.cell? ⟨b + 1 + 1 + 1, 0, none⟩ = some (.int .i64 0) := BE.cell 0
  refine leaves_cons (f := 144) (args := #[.pointer (some ⟨b + 1 + 1, 0, none⟩), .pointer (some ⟨b + 1 + 1 + 1, 0, none⟩)]) (by simp) (by simp [go_sem]) ?_
  refine (vbL _ _ _).mono ?_
  rintro e u' wz ⟨rfl, rfl, rfl⟩
  show Leaves _ _ _ _ [] .returning _
  exact ⟨.tuple #[roV r, .int .i64 0], by simp [results, Tryz.results80, go_sem, q0, q1, q2, q3, q4, q5, q6, q7, q8, q9], by first | exact RTellP.yes HN.out kR | (rw [HZ.out]; exact RTellP.yes HN.out kR)⟩
 have hdd : decide (now < r.d) = false := decide_eq_false h0
 by_cases h2 : r.s = 2
 ·have e2 := beqT h2
  have hf : expR c r now = lostR c r now := by unfold expR; rw [if_neg (by omega), if_pos h2]
  obtain ⟨x, hxx⟩ : ∃ x, lostR c r now = x := ⟨_, rfl⟩
  have HZ := Lib.hid (hf.trans hxx)
  have HX := Lib.hid hxx
  clear hxx hf ss h2
  go_wp2_with fail
  have HL := veU c A c.own.length m r now w5 hn0 hn1 (by omega) t3.2
  rw [HX.out] at HL
  refine HL.mono ?_
  rintro e w6 ⟨rfl, K6⟩
  have J1 := I1.keep K6
  have J3 := I3.keep K6
  have J4 := I4.keep K6
  have k6 := k5.trans K6
  clear xc0 xp0 y7 I0 I1 I3 I4 I5 K6 k5
  have xp0 := Blk.f J1 rfl
  have zp0 := Blk.frozen J1
  obtain ⟨W7, hW7, L1, L3, L4, k7⟩ : ∃ W7, roSet w6 (b + 1) x = W7 ∧ Blk W7 (b + 1) 52 (roC x) ∧ Blk W7 (b + 1 + 1) 52 zero9 ∧ Blk W7 (b + 1 + 1 + 1) 44 #[.int .i64 0] ∧ Kp w W7 := ⟨_, rfl, Blk.putRo J1 _, Blk.putRo_far J3 (by omega) _, Blk.putRo_far J4 (by omega) _, Kp.putRo k6 (by omega) _⟩
  simp only [roSet] at hW7
  unfold roC at L1
  have xx0 := Blk.f L1 rfl
  obtain ⟨q0, q1, q2, q3, q4, q5, q6, q7, q8⟩ := Blk.v9 L3 (.int .u32 0) (.int .i64 0) (.int .i64 0) (.int .i64 0) (.int .i64 0) (.int .i64 0) (.int .u32 0) (.int .i64 0) (.bool false) rfl
  have z0 := Blk.frozen L3
  have d0 : W7.cell? ⟨b + 1 + 1 + 1, 0, none⟩ = some (.int .i64 0) := L4.cell 0
  have zd := Blk.frozen L4
  obtain ⟨R, hR, BR, BE, kR⟩ := Blk.put10 L3 x L4 (by omega) (v := .int .i64 0) k7 (by omega) (by omega)
  simp only [roSet] at hR
  go_wp2_with fail
  clear q0 q1 q2 q3 q4 q5 q6 q7 q8
  obtain ⟨q0, q1, q2, q3, q4, q5, q6, q7, q8⟩ := vae BR
  have q9 : R.cell? ⟨b + 1 + 1 + 1, 0, none⟩ = some (.int .i64 0) := BE.cell 0
  refine leaves_cons (f := 144) (args := #[.pointer (some ⟨b + 1 + 1, 0, none⟩), .pointer (some ⟨b + 1 + 1 + 1, 0, none⟩)]) (by simp) (by simp [go_sem]) ?_
  refine (vbL _ _ _).mono ?_
  rintro e u' wz ⟨rfl, rfl, rfl⟩
  show Leaves _ _ _ _ [] .returning _
  exact ⟨.tuple #[roV x, .int .i64 0], by simp [results, Tryz.results80, go_sem, q0, q1, q2, q3, q4, q5, q6, q7, q8, q9], by first | exact RTellP.yes HN.out kR | (rw [HZ.out]; exact RTellP.yes HN.out kR)⟩
 have e2 := beqF h2
 by_cases h3 : r.s = 3
 ·have e3 := beqT h3
  have hf : expR c r now = ⟨r.p, 4, r.m, 0, r.f, r.x, now + c.t4, r.c⟩ := by unfold expR; rw [if_neg (by omega), if_neg h2, if_pos h3]
  have HZ := Lib.hid hf
  clear hf ss h2 h3
  have t40 : 0 ≤ c.t4 := by omega
  have t41 := t4.2
  have zp0 := Blk.frozen I1
  obtain ⟨W7, hW7, L1, L3, L4, k7⟩ : ∃ W7, (((w5.setCell ⟨b + 1, 2, none⟩ (.int .i64 4)).setCell ⟨b + 1, 4, none⟩ (.int .i64 0)).setCell ⟨b + 1, 7, none⟩ (.int .i64 (now + c.t4))) = W7 ∧ Blk W7 (b + 1) 52 #[.int .u32 (r.p.a : Int), .int .i64 r.p.l, .int .i64 4, .int .i64 r.m, .int .i64 0, .int .i64 r.f, .int .u32 (r.x : Int), .int .i64 (now + c.t4), .bool r.c] ∧ Blk W7 (b + 1 + 1) 52 zero9 ∧ Blk W7 (b + 1 + 1 + 1) 44 #[.int .i64 0] ∧ Kp w W7 :=
   ⟨_, rfl, by have H := (((I1.set_ 2 (.int .i64 4)).set_ 4 (.int .i64 0)).set_ 7 (.int .i64 (now + c.t4))); simp only [roC, List.setIfInBounds_toArray, List.set_cons_zero, List.set_cons_succ] at H; exact H, (((I3.far (p := ⟨b + 1, 2, none⟩) (by show b + 1 + 1 ≠ b + 1; omega) (.int .i64 4)).far (p := ⟨b + 1, 4, none⟩) (by show b + 1 + 1 ≠ b + 1; omega) (.int .i64 0)).far (p := ⟨b + 1, 7, none⟩) (by show b + 1 + 1 ≠ b + 1; omega) (.int .i64 (now + c.t4))), (((I4.far (p := ⟨b + 1, 2, none⟩) (by show b + 1 + 1 + 1 ≠ b + 1; omega) (.int .i64 4)).far (p := ⟨b + 1, 4, none⟩) (by show b + 1 + 1 + 1 ≠ b + 1; omega) (.int .i64 0)).far (p := ⟨b + 1, 7, none⟩) (by show b + 1 + 1 + 1 ≠ b + 1; omega) (.int .i64 (now + c.t4))), (((k5.setCell (p := ⟨b + 1, 2, none⟩) (by show w.heap.size ≤ b + 1; omega) (.int .i64 4)).setCell (p := ⟨b + 1, 4, none⟩) (by show w.heap.size ≤ b + 1; omega) (.int .i64 0)).setCell (p := ⟨b + 1, 7, none⟩) (by show w.heap.size ≤ b + 1; omega) (.int .i64 (now + c.t4)))⟩
  have xx0 := Blk.f (l := [.int .u32 (r.p.a : Int), .int .i64 r.p.l, .int .i64 4, .int .i64 r.m, .int .i64 0, .int .i64 r.f, .int .u32 (r.x : Int), .int .i64 (now + c.t4), .bool r.c]) L1 rfl
  obtain ⟨q0, q1, q2, q3, q4, q5, q6, q7, q8⟩ := Blk.v9 L3 (.int .u32 0) (.int .i64 0) (.int .i64 0) (.int .i64 0) (.int .i64 0) (.int .i64 0) (.int .u32 0) (.int .i64 0) (.bool false) rfl
  have z0 := Blk.frozen L3
  have d0 : W7.cell? ⟨b + 1 + 1 + 1, 0, none⟩ = some (.int .i64 0) := L4.cell 0
  have zd := Blk.frozen L4
  obtain ⟨R, hR, BR, BE, kR⟩ := Blk.put10 L3 (⟨r.p, 4, r.m, 0, r.f, r.x, now + c.t4, r.c⟩ : Rt) L4 (by omega) (v := .int .i64 0) k7 (by omega) (by omega)
  simp only [roSet] at hR
  go_wp2_with fail
  go_region
  go_wp2_with fail
  clear q0 q1 q2 q3 q4 q5 q6 q7 q8
  obtain ⟨q0, q1, q2, q3, q4, q5, q6, q7, q8⟩ := vae BR
  have q9 : R.cell? ⟨b + 1 + 1 + 1, 0, none⟩ = some (.int .i64 0) := BE.cell 0
  refine leaves_cons (f := 144) (args := #[.pointer (some ⟨b + 1 + 1, 0, none⟩), .pointer (some ⟨b + 1 + 1 + 1, 0, none⟩)]) (by simp) (by simp [go_sem]) ?_
  refine (vbL _ _ _).mono ?_
  rintro e u' wz ⟨rfl, rfl, rfl⟩
  show Leaves _ _ _ _ [] .returning _
  exact ⟨.tuple #[roV (⟨r.p, 4, r.m, 0, r.f, r.x, now + c.t4, r.c⟩ : Rt), .int .i64 0], by simp [results, Tryz.results80, go_sem, q0, q1, q2, q3, q4, q5, q6, q7, q8, q9], by first | exact RTellP.yes HN.out kR.drew | (rw [HZ.out]; exact RTellP.yes HN.out kR.drew)⟩
 have e3 := beqF h3
 have e4 : (r.s == 4) = true := beqT (by omega)
 have hf : expR c r now = noR r.p := by unfold expR; rw [if_neg (by omega), if_neg h2, if_neg h3]
 have HZ := Lib.hid hf
 clear hf ss h2 h3
 have zp0 := Blk.frozen I1
 obtain ⟨W7, hW7, L1, L3, L4, k7⟩ : ∃ W7, roSet w5 (b + 1) (noR r.p) = W7 ∧ Blk W7 (b + 1) 52 (roC (noR r.p)) ∧ Blk W7 (b + 1 + 1) 52 zero9 ∧ Blk W7 (b + 1 + 1 + 1) 44 #[.int .i64 0] ∧ Kp w W7 := ⟨_, rfl, Blk.putRo I1 _, Blk.putRo_far I3 (by omega) _, Blk.putRo_far I4 (by omega) _, Kp.putRo k5 (by omega) _⟩
 simp only [roSet, noR, Int.natCast_zero] at hW7
 simp only [roC, noR, Int.natCast_zero] at L1
 have xx0 := Blk.f (l := [.int .u32 (r.p.a : Int), .int .i64 r.p.l, .int .i64 0, .int .i64 0, .int .i64 0, .int .i64 0, .int .u32 0, .int .i64 0, .bool false]) L1 rfl
 obtain ⟨q0, q1, q2, q3, q4, q5, q6, q7, q8⟩ := Blk.v9 L3 (.int .u32 0) (.int .i64 0) (.int .i64 0) (.int .i64 0) (.int .i64 0) (.int .i64 0) (.int .u32 0) (.int .i64 0) (.bool false) rfl
 have z0 := Blk.frozen L3
 have d0 : W7.cell? ⟨b + 1 + 1 + 1, 0, none⟩ = some (.int .i64 0) := L4.cell 0
 have zd := Blk.frozen L4
 obtain ⟨R, hR, BR, BE, kR⟩ := Blk.put10 L3 (noR r.p) L4 (by omega) (v := .int .i64 0) k7 (by omega) (by omega)
 simp only [roSet, noR, Int.natCast_zero] at hR
 go_wp2_with fail
 clear q0 q1 q2 q3 q4 q5 q6 q7 q8
 obtain ⟨q0, q1, q2, q3, q4, q5, q6, q7, q8⟩ := vae BR
 have q9 : R.cell? ⟨b + 1 + 1 + 1, 0, none⟩ = some (.int .i64 0) := BE.cell 0
 refine leaves_cons (f := 144) (args := #[.pointer (some ⟨b + 1 + 1, 0, none⟩), .pointer (some ⟨b + 1 + 1 + 1, 0, none⟩)]) (by simp) (by simp [go_sem]) ?_
 refine (vbL _ _ _).mono ?_
 rintro e u' wz ⟨rfl, rfl, rfl⟩
 show Leaves _ _ _ _ [] .returning _
 exact ⟨.tuple #[roV (noR r.p), .int .i64 0], by simp [results, Tryz.results80, go_sem, q0, q1, q2, q3, q4, q5, q6, q7, q8, q9, noR], by first | exact RTellP.yes HN.out kR | (rw [HZ.out]; exact RTellP.yes HN.out kR)⟩
set_option maxRecDepth 100000 in
theorem vfI (c : Cf) (A : Option Addr) (m : Nat) (r : Rt) (h : Hd) (now : Int) (w : World) (hS : SlPI w A m c.own) (hC : CapAt w) (ha : ∀ k (hk : k < c.own.length), c.own[k].a < 4294967296) (hp : r.p.a < 4294967296) (hx : r.x < 4294967296) (hha : h.a < 4294967296) :
  Calls Tryz.prog 57 #[cfV c A c.own.length m, roV r, .agg #[.int .i64 h.f, .int .u32 (h.a : Int), .int .i64 h.m], .int .i64 now] w (RTellP (askH c r h now) (hearR c r h now) w) := by
 obtain ⟨b, hb⟩ : ∃ b, w.heap.size = b := ⟨_, rfl⟩
 obtain ⟨W0, hW0, k0, B0, B1, B2⟩ := Blk.al3 hb (cfC c A c.own.length m) 49 (roC r) 52 #[.int .i64 h.f, .int .u32 (h.a : Int), .int .i64 h.m] 57
 have hs0 : W0.heap.size = b + 1 + 1 + 1 := by rw [← hW0, ← hb]; simp
 obtain ⟨W, hW, kW, C0, C1, C2, C3, C4⟩ : ∃ W, (W0.alloc (.cells zero9 52)).alloc (.cells #[.int .i64 0] 44) = W ∧ Kp w W ∧ Blk W b 49 (cfC c A c.own.length m) ∧ Blk W (b + 1) 52 (roC r) ∧ Blk W (b + 1 + 1) 57 #[.int .i64 h.f, .int .u32 (h.a : Int), .int .i64 h.m] ∧ Blk W (b + 1 + 1 + 1) 52 zero9 ∧ Blk W (b + 1 + 1 + 1 + 1) 44 #[.int .i64 0] := ⟨_, rfl, (k0.alloc _).alloc _, (B0.alloc _).alloc _, (B1.alloc _).alloc _, (B2.alloc _).alloc _, by rw [← hs0]; exact (Blk.new _ _ _).alloc _, by rw [← hs0]; exact Blk.new1 _ _ _ _⟩
 unfold cfC roC at hW0
 unfold zero9 at hW
 clear B0 B1 B2 k0
 have hlt := C4.lt
 have xc0 := Blk.f C0 rfl
 have xp0 := Blk.f C1 rfl
 have hbo : bothB c r = (okCf c && okR r) := rfl
 go_enter_defers Tryz.func57, Tryz.ntmps57
 go_wp2_with fail
 refine (vcZ c A m r _ (hS.keep kW) (hC.keep kW) ha hp hx).mono ?_
 rintro e w1 ⟨hY, hN, K1⟩
 have D0 := C0.keep K1
 have D1 := C1.keep K1
 have D2 := C2.keep K1
 have D3 := C3.keep K1
 have D4 := C4.keep K1
 have k1 := kW.trans K1
 clear xc0 xp0 hW hW0 C0 C1 C2 C3 C4 K1
 rcases hb1 : bothB c r with _ | _
 ·obtain rfl := hN hb1
  have HN := Lib.hid (show askH c r h now = 2 by unfold askH; rw [← hbo, hb1]; rfl)
  clear hY hN
  go_wp2_with fail
  refine leaves_cons (f := 120) (args := #[.pointer (some ⟨b + 1 + 1 + 1, 0, none⟩), .pointer (some ⟨b + 1 + 1 + 1 + 1, 0, none⟩)]) (by simp) (by simp [go_sem]) ?_
  refine (vcg (b + 1 + 1 + 1) (b + 1 + 1 + 1 + 1) _ _ _ _ _ _ _ _ _ _ 2 _ D3 D4 (by omega)).mono ?_
  rintro e u' wz ⟨rfl, rfl, C0, C1, hO⟩
  obtain ⟨q0, q1, q2, q3, q4, q5, q6, q7, q8⟩ := Blk.v9 C0 (.int .u32 0) (.int .i64 0) (.int .i64 0) (.int .i64 0) (.int .i64 0) (.int .i64 0) (.int .u32 0) (.int .i64 0) (.bool false) rfl
  have q9 : wz.cell? ⟨b + 1 + 1 + 1 + 1, 0, none⟩ = some (.int .i64 2) := C1.cell 0
  show Leaves _ _ _ _ [] .returning _
  exact ⟨.tuple #[roV zeroR, .int .i64 2], by simp [results, Tryz.results57, go_sem, zeroR, noR, q0, q1, q2, q3, q4, q5, q6, q7, q8, q9], RTellP.no HN.out (by decide) (hO.kp k1 (by simp; omega))⟩
 obtain rfl := hY hb1
 clear hY hN
 have xh0 := Blk.f D2 rfl
 go_wp2_with fail
 refine (veV h _ hha).mono ?_
 rintro e w2 ⟨hY, hN, K2⟩
 have E0 := D0.keep K2
 have E1 := D1.keep K2
 have E2 := D2.keep K2
 have E3 := D3.keep K2
 have E4 := D4.keep K2
 have k2 := k1.trans K2
 clear xh0 D0 D1 D2 D3 D4 K2 k1
 rcases hb2 : okHd h with _ | _
 ·obtain rfl := hN hb2
  have HN := Lib.hid (show askH c r h now = 2 by unfold askH; rw [← hbo, hb1, hb2]; rfl)
  clear hY hN
  go_wp2_with fail
  refine leaves_cons (f := 120) (args := #[.pointer (some ⟨b + 1 + 1 + 1, 0, none⟩), .pointer (some ⟨b + 1 + 1 + 1 + 1, 0, none⟩)]) (by simp) (by simp [go_sem]) ?_
  refine (vcg (b + 1 + 1 + 1) (b + 1 + 1 + 1 + 1) _ _ _ _ _ _ _ _ _ _ 2 _ E3 E4 (by omega)).mono ?_
  rintro e u' wz ⟨rfl, rfl, C0, C1, hO⟩
  obtain ⟨q0, q1, q2, q3, q4, q5, q6, q7, q8⟩ := Blk.v9 C0 (.int .u32 0) (.int .i64 0) (.int .i64 0) (.int .i64 0) (.int .i64 0) (.int .i64 0) (.int .u32 0) (.int .i64 0) (.bool false) rfl
  have q9 : wz.cell? ⟨b + 1 + 1 + 1 + 1, 0, none⟩ = some (.int .i64 2) := C1.cell 0
  show Leaves _ _ _ _ [] .returning _
  exact ⟨.tuple #[roV zeroR, .int .i64 2], by simp [results, Tryz.results57, go_sem, zeroR, noR, q0, q1, q2, q3, q4, q5, q6, q7, q8, q9], RTellP.no HN.out (by decide) (hO.kp k2 (by simp; omega))⟩
 obtain rfl := hY hb2
 clear hY hN
 go_wp2_with fail
 refine (vdH now _).mono ?_
 rintro e w3 ⟨hY, hN, K3⟩
 have F0 := E0.keep K3
 have F1 := E1.keep K3
 have F2 := E2.keep K3
 have F3 := E3.keep K3
 have F4 := E4.keep K3
 have k3 := k2.trans K3
 clear E0 E1 E2 E3 E4 K3 k2
 rcases hb3 : okNow now with _ | _
 ·obtain rfl := hN hb3
  have HN := Lib.hid (show askH c r h now = 170 by unfold askH; rw [← hbo, hb1, hb2, hb3]; rfl)
  clear hY hN
  go_wp2_with fail
  refine leaves_cons (f := 120) (args := #[.pointer (some ⟨b + 1 + 1 + 1, 0, none⟩), .pointer (some ⟨b + 1 + 1 + 1 + 1, 0, none⟩)]) (by simp) (by simp [go_sem]) ?_
  refine (vcg (b + 1 + 1 + 1) (b + 1 + 1 + 1 + 1) _ _ _ _ _ _ _ _ _ _ 170 _ F3 F4 (by omega)).mono ?_
  rintro e u' wz ⟨rfl, rfl, C0, C1, hO⟩
  obtain ⟨q0, q1, q2, q3, q4, q5, q6, q7, q8⟩ := Blk.v9 C0 (.int .u32 0) (.int .i64 0) (.int .i64 0) (.int .i64 0) (.int .i64 0) (.int .i64 0) (.int .u32 0) (.int .i64 0) (.bool false) rfl
  have q9 : wz.cell? ⟨b + 1 + 1 + 1 + 1, 0, none⟩ = some (.int .i64 170) := C1.cell 0
  show Leaves _ _ _ _ [] .returning _
  exact ⟨.tuple #[roV zeroR, .int .i64 170], by simp [results, Tryz.results57, go_sem, zeroR, noR, q0, q1, q2, q3, q4, q5, q6, q7, q8, q9], RTellP.no HN.out (by decide) (hO.kp k3 (by simp; omega))⟩
 obtain rfl := hY hb3
 clear hY hN
 have HN := Lib.hid (show askH c r h now = 0 by unfold askH; rw [← hbo, hb1, hb2, hb3]; rfl)
 rw [hbo, Bool.and_eq_true] at hb1
 have HH := vlX c A c.own.length m r h now w3 hb1.1 hb1.2 hb2 hb3
 obtain ⟨x, hxx⟩ : ∃ x, hearR c r h now = x := ⟨_, rfl⟩
 rw [hxx] at HH
 have HZ := Lib.hid hxx
 clear hb1 hb2 hb3 hbo hxx
 have xc0 := Blk.f F0 rfl
 have xp0 := Blk.f F1 rfl
 have xh0 := Blk.f F2 rfl
 go_wp2_with fail
 refine HH.mono ?_
 rintro e w4 ⟨rfl, K4⟩
 have G3 := F3.keep K4
 have G4 := F4.keep K4
 have k4 := k3.trans K4
 clear xc0 xp0 xh0 F0 F1 F2 F3 F4 K4 k3
 obtain ⟨q0, q1, q2, q3, q4, q5, q6, q7, q8⟩ := Blk.v9 G3 (.int .u32 0) (.int .i64 0) (.int .i64 0) (.int .i64 0) (.int .i64 0) (.int .i64 0) (.int .u32 0) (.int .i64 0) (.bool false) rfl
 have z0 := Blk.frozen G3
 have d0 : w4.cell? ⟨b + 1 + 1 + 1 + 1, 0, none⟩ = some (.int .i64 0) := G4.cell 0
 have zd := Blk.frozen G4
 obtain ⟨R, hR, BR, BE, kR⟩ := Blk.put10 G3 x G4 (by omega) (v := .int .i64 0) k4 (by omega) (by omega)
 simp only [roSet] at hR
 go_wp2_with fail
 clear q0 q1 q2 q3 q4 q5 q6 q7 q8
 obtain ⟨q0, q1, q2, q3, q4, q5, q6, q7, q8⟩ := vae BR
 have q9 : R.cell? ⟨b + 1 + 1 + 1 + 1, 0, none⟩ = some (.int .i64 0) := BE.cell 0
 refine leaves_cons (f := 120) (args := #[.pointer (some ⟨b + 1 + 1 + 1, 0, none⟩), .pointer (some ⟨b + 1 + 1 + 1 + 1, 0, none⟩)]) (by simp) (by simp [go_sem]) ?_
 refine (vhS _ _ _).mono ?_
 rintro e u' wz ⟨rfl, rfl, rfl⟩
 show Leaves _ _ _ _ [] .returning _
 exact ⟨.tuple #[roV x, .int .i64 0], by simp [results, Tryz.results57, go_sem, q0, q1, q2, q3, q4, q5, q6, q7, q8, q9], by first | exact RTellP.yes HN.out kR | (rw [HZ.out]; exact RTellP.yes HN.out kR)⟩
end

section
open Go.RowKit Go.Maps Go.WideShapes
set_option maxRecDepth 100000 in
theorem veW {w : World} {m n : Nat} {f : Tk → Option Nat} (h : MpT w m n f) {t : Tk} (ht : t.wf) : ∃ v : Int, (∀ w', w'.heap = w.heap → (Instr.lookup 211 (.map (some m)) (tkV t) true).run Tryz.prog w' = .ok (.tuple #[.int .i64 v, .bool (f t).isSome]) w') ∧ ∀ i, f t = some i → v = (i : Int) := by
 obtain ⟨D, hD, _, hf⟩ := h
 have hz : ∀ w', (zeroValue 3).run Tryz.prog w' = .ok (.int .i64 0) w' := fun w' => by kernel_rfl
 have hzd : plainElem Tryz.prog 3 (.int .i64 0) = some ((.lit (.int .i64 0) : DataW Unit), ([] : List MemPlace)) := plainElem_int Tryz.underlying3 (vdz ⟨by omega, by omega⟩)
 have H : ∀ w', w'.heap = w.heap → ∃ v : Int, (Instr.lookup 211 (.map (some m)) (tkV t) true).run Tryz.prog w' = .ok (.tuple #[.int .i64 v, .bool (f t).isSome]) w' ∧ D.atKey (tkKey t) (.lit (.int .i64 0)) = .lit (.int .i64 v) := fun w' e => by
  obtain ⟨v, ps, h1, h2⟩ := World.ownsMap.look_ok (vap hD (by rw [e])) keyedTm Tryz.underlying211 (hz w') hzd (vbg ht)
  obtain ⟨x, rfl, h3, _⟩ := plainElem_int_inv Tryz.underlying3 h2
  rw [hf.has_ t ht] at h1
  injection h3 with h3 _
  exact ⟨x, h1, h3⟩
 obtain ⟨v, h1, h2⟩ := H w rfl
 refine ⟨v, fun w' e => ?_, fun i hi => ?_⟩
 ·obtain ⟨x, h3, h4⟩ := H w' e
  rw [h2] at h4
  injection h4 with h4
  injection h4 with _ h4
  rw [h4]
  exact h3
 ·have := hf.at_ t ht i hi
  rw [h2] at this
  injection this with h4
  injection h4
structure QuS (w : World) (B a : Nat) (bs : List Nat) (l : List Tw) : Prop where
 q : ∃ q m v, Blk w a 216 #[.pointer (some ⟨q, 0, none⟩)] ∧ QuM w B q m v l ∧ a ∈ bs ∧ q ∈ bs ∧ m ∈ bs ∧ ∀ g, v.ownBlock = some g → g ∈ bs
 lo : ∀ b ∈ bs, B ≤ b ∧ b < w.heap.size
 hp : Heap ltT (fT l) l.length
 k3 : ∀ y ∈ l, y.k = 3
set_option maxRecDepth 100000 in
theorem vlY (B a q m : Nat) (A : Option Addr) (c n : Nat) (l : List Tw) (p : PI) (d : Int) (w : World) (hA : Blk w a 216 #[.pointer (some ⟨q, 0, none⟩)]) (Q : QuM w B q m (.slice A l.length c) l) (hln : l.length = n) (hB : B ≤ w.heap.size) (hx : (Tw.mk 3 p d).tk.wf) (hc : checkP p = 0) (hd0 : 0 ≤ d) (hd1 : d ≤ 4611686018427387904) (hn : ∀ i (h : i < l.length), l[i].tk ≠ (Tw.mk 3 p d).tk) (hl : n ≤ 900000) (hH : Heap ltT (fT l) n) :
  Calls Tryz.prog 174 #[.pointer (some ⟨a, 0, none⟩), .agg #[.int .i64 3, .int .u32 (p.a : Int), .int .i64 p.l], .int .i64 d] w fun e w' => (∃ v, e = .returned v) ∧ ∃ g c' l', QuM w' B q m (.slice (some ⟨g, 0, none⟩) (n + 1) c') l' ∧ l'.Perm (l ++ [⟨3, p, d⟩]) ∧ l'.length = n + 1 ∧ Heap ltT (fT l') (n + 1) ∧ ((Value.slice A l.length c).ownBlock = some g ∨ w.heap.size ≤ g) ∧ ∀ bs : List Nat, q ∈ bs → m ∈ bs → (∀ g, (Value.slice A l.length c).ownBlock = some g → g ∈ bs) → Only bs w w' := by
 have haq : p.a < 4294967296 := hx.a
 obtain ⟨r, hr⟩ : ∃ r, w.heap.size = r := ⟨_, rfl⟩
 obtain ⟨W0, hW0, K0, BP⟩ := Blk.al1 hr #[.int .i64 3, .int .u32 (p.a : Int), .int .i64 p.l] 252
 have A0 := hA.keep K0
 have Q0 := Q.keep K0
 obtain ⟨p0, p1, p2⟩ := Blk.v3 BP (.int .i64 3) (.int .u32 p.a) (.int .i64 p.l) rfl
 have hz : ¬ d < 0 := by omega
 have hmx : ¬ 4611686018427387904 < d := by omega
 have hzb : decide (d < 0) = false := decide_eq_false hz
 have hmb : decide (4611686018427387904 < d) = false := decide_eq_false hmx
 have HC := Lib.hid (vaH p W0 haq)
 have HCc := Lib.hid hc
 have Hn := Lib.hid hn
 have HH := Lib.hid hH
 have Hln := Lib.hid hln
 have Hx := Lib.hid hx
 clear hn hH hx hln
 clear hc
 go_enter Tryz.func174, Tryz.ntmps174
 go_wp2_with fail
 refine vac 0 rfl ?_
 go_wp2_with fail
 refine (vbR a q _ A0).mono ?_
 rintro e w1 ⟨rfl, rfl⟩
 go_wp2_with fail
 refine HC.out.mono ?_
 rintro e w1 ⟨rfl, K1⟩
 rw [if_pos HCc.out]
 have KW := K0.trans K1
 have A1 := A0.keep K1
 have Q1 := Q0.keep K1
 obtain ⟨f, hm, hpl⟩ := Q1.mp
 obtain ⟨v, hlook, _⟩ := veW hm Hx.out
 have hf : f (Tw.mk 3 p d).tk = none := hpl.no _ Hn.out
 rw [hf] at hlook
 have hlk : ∀ k, (Instr.lookup 211 (.map (some m)) (.agg #[.int .i64 3, .int .u32 (p.a : Int), .int .i64 p.l]) true).run Tryz.prog (w1.drewN k) = .ok (.tuple #[.int .i64 v, .bool false]) (w1.drewN k) := fun k => hlook _ rfl
 have B1 := BP.keep K1
 have q0 : w1.cell? ⟨a, 0, none⟩ = some (.pointer (some ⟨q, 0, none⟩)) := A1.cell 0
 have q1 : w1.cell? ⟨q, 1, none⟩ = some (.map (some m)) := Q1.bk.cell 1
 obtain ⟨u0, u1, u2⟩ := Blk.v3 B1 (.int .i64 3) (.int .u32 p.a) (.int .i64 p.l) rfl
 clear hlook
 go_wp2_with fail
 go_quiet (fail)
 obtain ⟨W2, hW2, K2⟩ : ∃ W2, w1.drewN nq = W2 ∧ Kp w1 W2 := ⟨_, rfl, (Kp.refl _).drewN _⟩
 rw [hW2]
 have A2 := A1.keep K2
 have Q2 := Q1.keep K2
 have B2 := B1.keep K2
 clear hW2 hlk q0 q1 u0 u1 u2 p0 p1 p2 hf hpl hm
 have q0 : W2.cell? ⟨a, 0, none⟩ = some (.pointer (some ⟨q, 0, none⟩)) := A2.cell 0
 obtain ⟨u0, u1, u2⟩ := Blk.v3 B2 (.int .i64 3) (.int .u32 p.a) (.int .i64 p.l) rfl
 go_wp2_with fail
 go_still_tail 9, (by kernel_rfl)
 change wpList _ _ _ _ _ W2.drew
 go_wp2_with fail
 refine (vfA B q m A c n l ⟨3, p, d⟩ W2.drew (Q2.keep ((Kp.refl _).drew)) Hln.out (Nat.le_trans hB (KW.trans K2).size) Hx.out (show wfI d from ⟨by omega, by omega⟩) Hn.out hl HH.out).mono ?_
 rintro e w3 ⟨rfl, g, c', l', Q3, hp3, hl3, hH3, hgg, hF⟩
 have Hgg := Lib.hid (hgg.imp id (fun h => Nat.le_trans (KW.trans K2).size h))
 clear hgg
 have HF := Lib.hid hF
 clear hF
 go_wp2_with fail
 refine vak ?_
 exact bodyPost_ret (v := .tuple #[.int .i64 0, .bool false, .int .i64 0]) (by simp [results, Tryz.results174, go_sem]) rfl ⟨⟨_, rfl⟩, g, c', l', Q3, hp3, hl3, hH3, Hgg.out, fun bs hq hm hg => (Only.of_kp ((KW.trans K2).drew)).trans (HF.out bs hq hm hg)⟩
set_option maxRecDepth 100000 in
theorem vlZ (B a q m g c n : Nat) (l : List Tw) (p : PI) (d : Int) (i : Nat) (hi : i < l.length) (w : World) (hA : Blk w a 216 #[.pointer (some ⟨q, 0, none⟩)]) (Q : QuM w B q m (.slice (some ⟨g, 0, none⟩) n c) l) (hln : l.length = n) (hx : (Tw.mk 3 p d).tk.wf) (hc : checkP p = 0) (hd0 : 0 ≤ d) (hd1 : d ≤ 4611686018427387904) (hn : l[i].tk = (Tw.mk 3 p d).tk) (hl : n ≤ 900000) (hH : Heap ltT (fT l) n) :
  Calls Tryz.prog 174 #[.pointer (some ⟨a, 0, none⟩), .agg #[.int .i64 3, .int .u32 (p.a : Int), .int .i64 p.l], .int .i64 d] w fun e w' => (∃ v, e = .returned v) ∧ ∃ l', QuM w' B q m (.slice (some ⟨g, 0, none⟩) n c) l' ∧ l'.Perm (l.set i ⟨3, p, d⟩) ∧ l'.length = n ∧ Heap ltT (fT l') n ∧ Only [g, m] w w' := by
 have haq : p.a < 4294967296 := hx.a
 obtain ⟨r, hr⟩ : ∃ r, w.heap.size = r := ⟨_, rfl⟩
 obtain ⟨W0, hW0, K0, BP⟩ := Blk.al1 hr #[.int .i64 3, .int .u32 (p.a : Int), .int .i64 p.l] 252
 have A0 := hA.keep K0
 have Q0 := Q.keep K0
 obtain ⟨p0, p1, p2⟩ := Blk.v3 BP (.int .i64 3) (.int .u32 p.a) (.int .i64 p.l) rfl
 have hz : ¬ d < 0 := by omega
 have hmx : ¬ 4611686018427387904 < d := by omega
 have hzb : decide (d < 0) = false := decide_eq_false hz
 have hmb : decide (4611686018427387904 < d) = false := decide_eq_false hmx
 have HC := Lib.hid (vaH p W0 haq)
 have HCc := Lib.hid hc
 have Hn := Lib.hid hn
 have i0 : (0 : Int) ≤ (i : Int) := by omega
 have i1 : (i : Int) < (n : Int) := by omega
 have gi : IntKind.i64.wrap (i : Int) = (i : Int) := IntWalk.i64_in _ (by omega)
 obtain ⟨z, hz0⟩ : ∃ z, l[i].d = z := ⟨_, rfl⟩
 have Hz := Lib.hid hz0
 clear hz0
 have HH := Lib.hid hH
 have Hln := Lib.hid hln
 have Hx := Lib.hid hx
 clear hH hx hln
 clear hc hn
 go_enter Tryz.func174, Tryz.ntmps174
 go_wp2_with fail
 refine vac 0 rfl ?_
 go_wp2_with fail
 refine (vbR a q _ A0).mono ?_
 rintro e w1 ⟨rfl, rfl⟩
 go_wp2_with fail
 refine HC.out.mono ?_
 rintro e w1 ⟨rfl, K1⟩
 rw [if_pos HCc.out]
 have KW := K0.trans K1
 have A1 := A0.keep K1
 have Q1 := Q0.keep K1
 obtain ⟨f, hm, hpl⟩ := Q1.mp
 obtain ⟨v, hlook, hv⟩ := veW hm Hx.out
 have hf : f (Tw.mk 3 p d).tk = some i := by rw [← Hn.out]; exact hpl.at_ i hi
 obtain rfl := hv i hf
 rw [hf] at hlook
 have hlk : ∀ k, (Instr.lookup 211 (.map (some m)) (.agg #[.int .i64 3, .int .u32 (p.a : Int), .int .i64 p.l]) true).run Tryz.prog (w1.drewN k) = .ok (.tuple #[.int .i64 (i : Int), .bool true]) (w1.drewN k) := fun k => hlook _ rfl
 have B1 := BP.keep K1
 have q0 : w1.cell? ⟨a, 0, none⟩ = some (.pointer (some ⟨q, 0, none⟩)) := A1.cell 0
 have q1 : w1.cell? ⟨q, 1, none⟩ = some (.map (some m)) := Q1.bk.cell 1
 obtain ⟨u0, u1, u2⟩ := Blk.v3 B1 (.int .i64 3) (.int .u32 p.a) (.int .i64 p.l) rfl
 clear hlook hv
 go_wp2_with fail
 go_quiet (fail)
 obtain ⟨W2, hW2, K2⟩ : ∃ W2, w1.drewN nq = W2 ∧ Kp w1 W2 := ⟨_, rfl, (Kp.refl _).drewN _⟩
 rw [hW2]
 have A2 := A1.keep K2
 have Q2 := Q1.keep K2
 obtain ⟨b, off, hBe, x0, x1, x2, x3⟩ := tw_at (Q2.own.rdAt (by decide) Tw.len) hi
 injection hBe with hBe
 injection hBe with e1 e2
 subst e1
 subst e2
 rw [Nat.zero_add, Hz.out] at x3
 clear x0 x1 x2
 have hcn : c = c := rfl
 clear hW2 hlk q0 q1 u0 u1 u2 p0 p1 p2 hf hpl hm
 have q0 : W2.cell? ⟨a, 0, none⟩ = some (.pointer (some ⟨q, 0, none⟩)) := A2.cell 0
 have q1 : W2.cell? ⟨q, 0, none⟩ = some (.slice (some ⟨g, 0, none⟩) n c) := Q2.bk.cell 0
 have ice := Q2.own.ice (i * 4 + 3)
 obtain ⟨cur, hcur⟩ := Q2.own.blk4
 have hga : a ≠ g := A2.ne_tagT hcur (by decide)
 have hgq : q ≠ g := Q2.bk.ne_tagT hcur (by decide)
 have hO := Q2.own.putDue hi ⟨3, p, d⟩ Hn.out.symm
 have O2 : Only [g] W2 (W2.setCell ⟨g, i * 4 + 3, none⟩ (.int .i64 d)) := (Only.refl [g] W2).setCell (p := ⟨g, i * 4 + 3, none⟩) (.inl (by simp)) _
 go_wp2_with fail
 have hD : DownH ltT (fT (l.set i ⟨3, p, d⟩)) n i i := by
  refine Heap.put vbj HH.out (fun k hk hk0 => (vnM hi _).2 k hk0) (by omega)
 have Q4 : QuM (W2.setCell ⟨g, i * 4 + 3, none⟩ (.int .i64 d)) B q m (.slice (some ⟨g, 0, none⟩) n c) (l.set i ⟨3, p, d⟩) := by
  obtain ⟨f2, hm2, hp2⟩ := Q2.mp
  have hgm : m ≠ g := hm2.ne hcur
  refine ⟨Q2.bk.only O2 (by simpa using hgq), hO, ⟨f2, ?_, hp2.set_ hi _ Hn.out.symm⟩, fun t ht => ?_⟩
  ·rw [List.length_set]
   exact hm2.lie (O2.block m hm2.lt (by simpa using hgm))
  ·rcases List.mem_or_eq_of_mem_set ht with h | h
   ·exact Q2.wf t h
   ·rw [h]
    exact ⟨Hx.out, show wfI d from ⟨by omega, by omega⟩⟩
 refine (vgm B q m g c n (l.set i ⟨3, p, d⟩) i _ Q4 (by rw [List.length_set]; exact Hln.out) (by omega) (by omega) hD).mono ?_
 rintro e w3 ⟨rfl, l', Q3, hp3, hl3, hH3, O3⟩
 clear hD x3 q0 q1 ice
 go_wp2_with fail
 refine vak ?_
 exact bodyPost_ret (v := .tuple #[.int .i64 z, .bool true, .int .i64 0]) (by simp [results, Tryz.results174, go_sem]) rfl ⟨⟨_, rfl⟩, l', Q3, hp3, hl3, hH3, ((Only.of_kp (KW.trans K2)).trans (O2.wide (by simp))).trans O3⟩
end

end Go.Proofs.YtgopnfacklmkaaaGreatDoor
