/- Lemmas and contracts for the theorem of this claim: RoF, RoG, RoE. -/
import Derived.Test.YtffckpkikdlbpaaGreatDoorZvAn
set_option linter.all false
set_option maxHeartbeats 16000000
namespace Go.Proofs.YtffckpkikdlbpaaGreatDoor
section
open Go.RowKit
set_option maxRecDepth 100000 in
theorem vgh (c : Cf) (A : Option Addr) (m : Nat) (r : Rt) (now : Int) (w : World) (hS : SlPI w A m c.own) (hC : CapAt w) (ha : ∀ k (hk : k < c.own.length), c.own[k].a < 4294967296) (hp : r.p.a < 4294967296) (hx : r.x < 4294967296) :
  Calls Tryz.prog 72 #[cfV c A c.own.length m, roV r, .int .i64 now] w (RTellP (askR c r now) (expR c r now) w) := by
 obtain ⟨b, hb⟩ : ∃ b, w.heap.size = b := ⟨_, rfl⟩
 obtain ⟨W0, hW0, k0, B0, B1⟩ := Blk.al2 hb (cfC c A c.own.length m) 24 (roC r) 48
 have hs0 : W0.heap.size = b + 1 + 1 := by rw [← hW0, ← hb]; simp
 obtain ⟨W, hW, kW, C0, C1, C3, C4⟩ : ∃ W, (W0.alloc (.cells zero9 48)).alloc (.cells #[.int .i64 0] 53) = W ∧ Kp w W ∧ Blk W b 24 (cfC c A c.own.length m) ∧ Blk W (b + 1) 48 (roC r) ∧ Blk W (b + 1 + 1) 48 zero9 ∧ Blk W (b + 1 + 1 + 1) 53 #[.int .i64 0] := ⟨_, rfl, (k0.alloc _).alloc _, (B0.alloc _).alloc _, (B1.alloc _).alloc _, by rw [← hs0]; exact (Blk.new _ _ _).alloc _, by rw [← hs0]; exact Blk.new1 _ _ _ _⟩
 unfold cfC roC at hW0
 unfold zero9 at hW
 clear B0 B1 k0
 have hlt := C4.lt
 have xc0 := Blk.f C0 rfl
 have xp0 := Blk.f C1 rfl
 have hbo : bothB c r = (okCf c && okR r) := rfl
 go_enter_defers Tryz.func72, Tryz.ntmps72
 go_wp2_with fail
 refine (vbv c A m r _ (hS.keep kW) (hC.keep kW) ha hp hx).mono ?_
 rintro e w1 ⟨hY, hN, K1⟩
 have D0 := C0.keep K1
 have D1 := C1.keep K1
 have D3 := C3.keep K1
 have D4 := C4.keep K1
 have k1 := kW.trans K1
 clear xc0 xp0 hW hW0 C0 C1 C3 C4 K1
 rcases hb1 : bothB c r with _ | _
 ·obtain rfl := hN hb1
  have HN := Lib.hid (show askR c r now = 2 by unfold askR; rw [← hbo, hb1]; rfl)
  clear hY hN
  go_wp2_with fail
  refine leaves_cons (f := 112) (args := #[.pointer (some ⟨b + 1 + 1, 0, none⟩), .pointer (some ⟨b + 1 + 1 + 1, 0, none⟩)]) (by simp) (by simp [go_sem]) ?_
  refine (vdM (b + 1 + 1) (b + 1 + 1 + 1) _ _ _ _ _ _ _ _ _ _ 2 _ D3 D4 (by omega)).mono ?_
  rintro e u' wz ⟨rfl, rfl, C0, C1, hO⟩
  obtain ⟨q0, q1, q2, q3, q4, q5, q6, q7, q8⟩ := Blk.v9 C0 (.int .u32 0) (.int .i64 0) (.int .i64 0) (.int .i64 0) (.int .i64 0) (.int .i64 0) (.int .u32 0) (.int .i64 0) (.bool false) rfl
  have q9 : wz.cell? ⟨b + 1 + 1 + 1, 0, none⟩ = some (.int .i64 2) := C1.cell 0
  show Leaves _ _ _ _ [] .returning _
  exact ⟨.tuple #[roV zeroR, .int .i64 2], by simp [results, Tryz.results72, go_sem, zeroR, noR, q0, q1, q2, q3, q4, q5, q6, q7, q8, q9], RTellP.no HN.out (by decide) (hO.kp k1 (by simp; omega))⟩
 obtain rfl := hY hb1
 clear hY hN
 go_wp2_with fail
 refine (vbR now _).mono ?_
 rintro e w3 ⟨hY, hN, K3⟩
 have F0 := D0.keep K3
 have F1 := D1.keep K3
 have F3 := D3.keep K3
 have F4 := D4.keep K3
 have k3 := k1.trans K3
 clear D0 D1 D3 D4 K3 k1
 rcases hb3 : okNow now with _ | _
 ·obtain rfl := hN hb3
  have HN := Lib.hid (show askR c r now = 170 by unfold askR; rw [← hbo, hb1, hb3]; rfl)
  clear hY hN
  go_wp2_with fail
  refine leaves_cons (f := 112) (args := #[.pointer (some ⟨b + 1 + 1, 0, none⟩), .pointer (some ⟨b + 1 + 1 + 1, 0, none⟩)]) (by simp) (by simp [go_sem]) ?_
  refine (vdM (b + 1 + 1) (b + 1 + 1 + 1) _ _ _ _ _ _ _ _ _ _ 170 _ F3 F4 (by omega)).mono ?_
  rintro e u' wz ⟨rfl, rfl, C0, C1, hO⟩
  obtain ⟨q0, q1, q2, q3, q4, q5, q6, q7, q8⟩ := Blk.v9 C0 (.int .u32 0) (.int .i64 0) (.int .i64 0) (.int .i64 0) (.int .i64 0) (.int .i64 0) (.int .u32 0) (.int .i64 0) (.bool false) rfl
  have q9 : wz.cell? ⟨b + 1 + 1 + 1, 0, none⟩ = some (.int .i64 170) := C1.cell 0
  show Leaves _ _ _ _ [] .returning _
  exact ⟨.tuple #[roV zeroR, .int .i64 170], by simp [results, Tryz.results72, go_sem, zeroR, noR, q0, q1, q2, q3, q4, q5, q6, q7, q8, q9], RTellP.no HN.out (by decide) (hO.kp k3 (by simp; omega))⟩
 obtain rfl := hY hb3
 clear hY hN
 have HN := Lib.hid (show askR c r now = 0 by unfold askR; rw [← hbo, hb1, hb3]; rfl)
 rw [hbo, Bool.and_eq_true] at hb1
 have hrr := (vat r).1 hb1.2
 have t3 := vaN hb1.1 3 (by omega)
 have t4 := vaN hb1.1 4 (by omega)
 simp only [leastS, Cf.t] at t3 t4
 rw [okNow, vaa] at hb3
 have hn0 : 0 ≤ now := hb3.1
 have hn1 : now ≤ 4611686018427387904 := by omega
 have ss := vaI hrr.2
 clear hb1 hbo
 have xc0 := Blk.f F0 rfl
 have xp0 := Blk.f F1 rfl
 have hht : timedB r = decide (2 ≤ r.s) := by
  unfold timedB
  rcases ss with h | h | h | h | h <;> rw [h] <;> rfl
 obtain ⟨d, hd⟩ : ∃ d, w3.heap.size = d := ⟨_, rfl⟩
 have hbd : b + 1 + 1 + 1 < d := by have := F4.lt; omega
 obtain ⟨W4, hW4, k4, G0, G1, G3, G4, G5⟩ : ∃ W4, w3.alloc (.cells (roC r) 170) = W4 ∧ Kp w W4 ∧ Blk W4 b 24 (cfC c A c.own.length m) ∧ Blk W4 (b + 1) 48 (roC r) ∧ Blk W4 (b + 1 + 1) 48 zero9 ∧ Blk W4 (b + 1 + 1 + 1) 53 #[.int .i64 0] ∧ Blk W4 d 170 (roC r) := ⟨_, rfl, k3.alloc _, F0.alloc _, F1.alloc _, F3.alloc _, F4.alloc _, by rw [← hd]; exact Blk.new _ _ _⟩
 unfold roC at hW4
 have y0 := Blk.f G5 rfl
 go_wp2_with fail
 clear xc0 xp0 y0 hW4 F0 F1 F3 F4 k3
 refine (viw r _).mono ?_
 rintro e w5 ⟨rfl, K5⟩
 have I0 := G0.keep K5
 have I1 := G1.keep K5
 have I3 := G3.keep K5
 have I4 := G4.keep K5
 have I5 := G5.keep K5
 have k5 := k4.trans K5
 clear G0 G1 G3 G4 G5 K5 k4
 have y7 := Blk.f I5 rfl
 have xc0 := Blk.f I0 rfl
 have xp0 := Blk.f I1 rfl
 by_cases h1 : r.s < 2
 ·have ht : timedB r = false := by rw [hht]; exact decide_eq_false (by omega)
  have hf : expR c r now = r := by unfold expR; rw [if_pos (.inl h1)]
  have HZ := Lib.hid hf
  rw [ht]
  clear hf ht hht ss
  obtain ⟨q0, q1, q2, q3, q4, q5, q6, q7, q8⟩ := Blk.v9 I3 (.int .u32 0) (.int .i64 0) (.int .i64 0) (.int .i64 0) (.int .i64 0) (.int .i64 0) (.int .u32 0) (.int .i64 0) (.bool false) rfl
  have z0 := Blk.frozen I3
  have d0 : w5.cell? ⟨b + 1 + 1 + 1, 0, none⟩ = some (.int .i64 0) := I4.cell 0
  have zd := Blk.frozen I4
  obtain ⟨R, hR, BR, BE, kR⟩ := Blk.put10 I3 r I4 (by omega) (v := .int .i64 0) k5 (by omega) (by omega)
  simp only [roSet] at hR
  go_wp2_with fail
  clear q0 q1 q2 q3 q4 q5 q6 q7 q8
  obtain ⟨q0, q1, q2, q3, q4, q5, q6, q7, q8⟩ := vab BR
  have q9 : R.cell? ⟨b + 1 + 1 + 1, 0, none⟩ = some (.int .i64 0) := BE.cell 0
  refine leaves_cons (f := 112) (args := #[.pointer (some ⟨b + 1 + 1, 0, none⟩), .pointer (some ⟨b + 1 + 1 + 1, 0, none⟩)]) (by simp) (by simp [go_sem]) ?_
  refine (vbw _ _ _).mono ?_
  rintro e u' wz ⟨rfl, rfl, rfl⟩
  show Leaves _ _ _ _ [] .returning _
  exact ⟨.tuple #[roV r, .int .i64 0], by simp [results, Tryz.results72, go_sem, q0, q1, q2, q3, q4, q5, q6, q7, q8, q9], by first | exact RTellP.yes HN.out kR | (rw [HZ.out]; exact RTellP.yes HN.out kR)⟩
 have ht : timedB r = true := by rw [hht]; exact decide_eq_true (by omega)
 rw [ht]
 clear ht hht
 by_cases h0 : now < r.d
 ·have hdd : decide (now < r.d) = true := decide_eq_true h0
  have hf : expR c r now = r := by unfold expR; rw [if_pos (.inr h0)]
  have HZ := Lib.hid hf
  clear hf ss
  obtain ⟨q0, q1, q2, q3, q4, q5, q6, q7, q8⟩ := Blk.v9 I3 (.int .u32 0) (.int .i64 0) (.int .i64 0) (.int .i64 0) (.int .i64 0) (.int .i64 0) (.int .u32 0) (.int .i64 0) (.bool false) rfl
  have z0 := Blk.frozen I3
  have d0 : w5.cell? ⟨b + 1 + 1 + 1, 0, none⟩ = some (.int .i64 0) := I4.cell 0
  have zd := Blk.frozen I4
  obtain ⟨R, hR, BR, BE, kR⟩ := Blk.put10 I3 r I4 (by omega) (v := .int .i64 0) k5 (by omega) (by omega)
  simp only [roSet] at hR
  go_wp2_with fail
  clear q0 q1 q2 q3 q4 q5 q6 q7 q8
  obtain ⟨q0, q1, q2, q3, q4, q5, q6, q7, q8⟩ := vab BR
  have q9 : R.cell? ⟨b + 1 + 1 + 1, 0, none⟩ = some (.int .i64 0) := BE.cell 0
  refine leaves_cons (f := 112) (args := #[.pointer (some ⟨b + 1 + 1, 0, none⟩), .pointer (some ⟨b + 1 + 1 + 1, 0, none⟩)]) (by simp) (by simp [go_sem]) ?_
  refine (vbw _ _ _).mono ?_
  rintro e u' wz ⟨rfl, rfl, rfl⟩
  show Leaves _ _ _ _ [] .returning _
  exact ⟨.tuple #[roV r, .int .i64 0], by simp [results, Tryz.results72, go_sem, q0, q1, q2, q3, q4, q5, q6, q7, q8, q9], by first | exact RTellP.yes HN.out kR | (rw [HZ.out]; exact RTellP.yes HN.out kR)⟩
 have hdd : decide (now < r.d) = false := decide_eq_false h0
 by_cases h2 : r.s = 2
 ·have e2 := beqT h2
  have hf : expR c r now = lostR c r now := by unfold expR; rw [if_neg (by omega), if_pos h2]
  obtain ⟨x, hxx⟩ : ∃ x, lostR c r now = x := ⟨_, rfl⟩
  have HZ := Lib.hid (hf.trans hxx)
  have HX := Lib.hid hxx
  clear hxx hf ss h2
  go_wp2_with fail
  have HL := vcU c A c.own.length m r now w5 hn0 hn1 (by omega) t3.2
  rw [HX.out] at HL
  refine HL.mono ?_
  rintro e w6 ⟨rfl, K6⟩
  have J1 := I1.keep K6
  have J3 := I3.keep K6
  have J4 := I4.keep K6
  have k6 := k5.trans K6
  clear xc0 xp0 y7 I0 I1 I3 I4 I5 K6 k5
  have xp0 := Blk.f J1 rfl
  have zp0 := Blk.frozen J1
  obtain ⟨W7, hW7, L1, L3, L4, k7⟩ : ∃ W7, roSet w6 (b + 1) x = W7 ∧ Blk W7 (b + 1) 48 (roC x) ∧ Blk W7 (b + 1 + 1) 48 zero9 ∧ Blk W7 (b + 1 + 1 + 1) 53 #[.int .i64 0] ∧ Kp w W7 := ⟨_, rfl, Blk.putRo J1 _, Blk.putRo_far J3 (by omega) _, Blk.putRo_far J4 (by omega) _, Kp.putRo k6 (by omega) _⟩
  simp only [roSet] at hW7
  unfold roC at L1
  have xx0 := Blk.f L1 rfl
  obtain ⟨q0, q1, q2, q3, q4, q5, q6, q7, q8⟩ := Blk.v9 L3 (.int .u32 0) (.int .i64 0) (.int .i64 0) (.int .i64 0) (.int .i64 0) (.int .i64 0) (.int .u32 0) (.int .i64 0) (.bool false) rfl
  have z0 := Blk.frozen L3
  have d0 : W7.cell? ⟨b + 1 + 1 + 1, 0, none⟩ = some (.int .i64 0) := L4.cell 0
  have zd := Blk.frozen L4
  obtain ⟨R, hR, BR, BE, kR⟩ := Blk.put10 L3 x L4 (by omega) (v := .int .i64 0) k7 (by omega) (by omega)
  simp only [roSet] at hR
  go_wp2_with fail
  clear q0 q1 q2 q3 q4 q5 q6 q7 q8
  obtain ⟨q0, q1, q2, q3, q4, q5, q6, q7, q8⟩ := vab BR
  have q9 : R.cell? ⟨b + 1 + 1 + 1, 0, none⟩ = some (.int .i64 0) := BE.cell 0
  refine leaves_cons (f := 112) (args := #[.pointer (some ⟨b + 1 + 1, 0, none⟩), .pointer (some ⟨b + 1 + 1 + 1, 0, none⟩)]) (by simp) (by simp [go_sem]) ?_
  refine (vbw _ _ _).mono ?_
  rintro e u' wz ⟨rfl, rfl, rfl⟩
  show Leaves _ _ _ _ [] .returning _
  exact ⟨.tuple #[roV x, .int .i64 0], by simp [results, Tryz.results72, go_sem, q0, q1, q2, q3, q4, q5, q6, q7, q8, q9], by first | exact RTellP.yes HN.out kR | (rw [HZ.out]; exact RTellP.yes HN.out kR)⟩
 have e2 := beqF h2
 by_cases h3 : r.s = 3
 ·have e3 := beqT h3
  have hf : expR c r now = ⟨r.p, 4, r.m, 0, r.f, r.x, now + c.t4, r.c⟩ := by unfold expR; rw [if_neg (by omega), if_neg h2, if_pos h3]
  have HZ := Lib.hid hf
  clear hf ss h2 h3
  have t40 : 0 ≤ c.t4 := by omega
  have t41 := t4.2
  have zp0 := Blk.frozen I1
  obtain ⟨W7, hW7, L1, L3, L4, k7⟩ : ∃ W7, (((w5.setCell ⟨b + 1, 2, none⟩ (.int .i64 4)).setCell ⟨b + 1, 4, none⟩ (.int .i64 0)).setCell ⟨b + 1, 7, none⟩ (.int .i64 (now + c.t4))) = W7 ∧ Blk W7 (b + 1) 48 #[.int .u32 (r.p.a : Int), .int .i64 r.p.l, .int .i64 4, .int .i64 r.m, .int .i64 0, .int .i64 r.f, .int .u32 (r.x : Int), .int .i64 (now + c.t4), .bool r.c] ∧ Blk W7 (b + 1 + 1) 48 zero9 ∧ Blk W7 (b + 1 + 1 + 1) 53 #[.int .i64 0] ∧ Kp w W7 :=
   ⟨_, rfl, by have H := (((I1.set_ 2 (.int .i64 4)).set_ 4 (.int .i64 0)).set_ 7 (.int .i64 (now + c.t4))); simp only [roC, List.setIfInBounds_toArray, List.set_cons_zero, List.set_cons_succ] at H; exact H, (((I3.far (p := ⟨b + 1, 2, none⟩) (by show b + 1 + 1 ≠ b + 1; omega) (.int .i64 4)).far (p := ⟨b + 1, 4, none⟩) (by show b + 1 + 1 ≠ b + 1; omega) (.int .i64 0)).far (p := ⟨b + 1, 7, none⟩) (by show b + 1 + 1 ≠ b + 1; omega) (.int .i64 (now + c.t4))), (((I4.far (p := ⟨b + 1, 2, none⟩) (by show b + 1 + 1 + 1 ≠ b + 1; omega) (.int .i64 4)).far (p := ⟨b + 1, 4, none⟩) (by show b + 1 + 1 + 1 ≠ b + 1; omega) (.int .i64 0)).far (p := ⟨b + 1, 7, none⟩) (by show b + 1 + 1 + 1 ≠ b + 1; omega) (.int .i64 (now + c.t4))), (((k5.setCell (p := ⟨b + 1, 2, none⟩) (by show w.heap.size ≤ b + 1; omega) (.int .i64 4)).setCell (p := ⟨b + 1, 4, none⟩) (by show w.heap.size ≤ b + 1; omega) (.int .i64 0)).setCell (p := ⟨b + 1, 7, none⟩) (by show w.heap.size ≤ b + 1; omega) (.int .i64 (now + c.t4)))⟩
  have xx0 := Blk.f (l := [.int .u32 (r.p.a : Int), .int .i64 r.p.l, .int .i64 4, .int .i64 r.m, .int .i64 0, .int .i64 r.f, .int .u32 (r.x : Int), .int .i64 (now + c.t4), .bool r.c]) L1 rfl
  obtain ⟨q0, q1, q2, q3, q4, q5, q6, q7, q8⟩ := Blk.v9 L3 (.int .u32 0) (.int .i64 0) (.int .i64 0) (.int .i64 0) (.int .i64 0) (.int .i64 0) (.int .u32 0) (.int .i64 0) (.bool false) rfl
  have z0 := Blk.frozen L3
  have d0 : W7.cell? ⟨b + 1 + 1 + 1, 0, none⟩ = some (.int .i64 0) := L4.cell 0
  have zd := Blk.frozen L4
  obtain ⟨R, hR, BR, BE, kR⟩ := Blk.put10 L3 (⟨r.p, 4, r.m, 0, r.f, r.x, now + c.t4, r.c⟩ : Rt) L4 (by omega) (v := .int .i64 0) k7 (by omega) (by omega)
  simp only [roSet] at hR
  go_wp2_with fail
  go_region
  go_wp2_with fail
  clear q0 q1 q2 q3 q4 q5 q6 q7 q8
  obtain ⟨q0, q1, q2, q3, q4, q5, q6, q7, q8⟩ := vab BR
  have q9 : R.cell? ⟨b + 1 + 1 + 1, 0, none⟩ = some (.int .i64 0) := BE.cell 0
  refine leaves_cons (f := 112) (args := #[.pointer (some ⟨b + 1 + 1, 0, none⟩), .pointer (some ⟨b + 1 + 1 + 1, 0, none⟩)]) (by simp) (by simp [go_sem]) ?_
  refine (vbw _ _ _).mono ?_
  rintro e u' wz ⟨rfl, rfl, rfl⟩
  show Leaves _ _ _ _ [] .returning _
  exact ⟨.tuple #[roV (⟨r.p, 4, r.m, 0, r.f, r.x, now + c.t4, r.c⟩ : Rt), .int .i64 0], by simp [results, Tryz.results72, go_sem, q0, q1, q2, q3, q4, q5, q6, q7, q8, q9], by first | exact RTellP.yes HN.out kR.drew | (rw [HZ.out]; exact RTellP.yes HN.out kR.drew)⟩
 have e3 := beqF h3
 have e4 : (r.s == 4) = true := beqT (by omega)
 have hf : expR c r now = noR r.p := by unfold expR; rw [if_neg (by omega), if_neg h2, if_neg h3]
 have HZ := Lib.hid hf
 clear hf ss h2 h3
 have zp0 := Blk.frozen I1
 obtain ⟨W7, hW7, L1, L3, L4, k7⟩ : ∃ W7, roSet w5 (b + 1) (noR r.p) = W7 ∧ Blk W7 (b + 1) 48 (roC (noR r.p)) ∧ Blk W7 (b + 1 + 1) 48 zero9 ∧ Blk W7 (b + 1 + 1 + 1) 53 #[.int .i64 0] ∧ Kp w W7 := ⟨_, rfl, Blk.putRo I1 _, Blk.putRo_far I3 (by omega) _, Blk.putRo_far I4 (by omega) _, Kp.putRo k5 (by omega) _⟩
 simp only [roSet, noR, Int.natCast_zero] at hW7
 simp only [roC, noR, Int.natCast_zero] at L1
 have xx0 := Blk.f (l := [.int .u32 (r.p.a : Int), .int .i64 r.p.l, .int .i64 0, .int .i64 0, .int .i64 0, .int .i64 0, .int .u32 0, .int .i64 0, .bool false]) L1 rfl
 obtain ⟨q0, q1, q2, q3, q4, q5, q6, q7, q8⟩ := Blk.v9 L3 (.int .u32 0) (.int .i64 0) (.int .i64 0) (.int .i64 0) (.int .i64 0) (.int .i64 0) (.int .u32 0) (.int .i64 0) (.bool false) rfl
 have z0 := Blk.frozen L3
 have d0 : W7.cell? ⟨b + 1 + 1 + 1, 0, none⟩ = some (.int .i64 0) := L4.cell 0
 have zd := Blk.frozen L4
 obtain ⟨R, hR, BR, BE, kR⟩ := Blk.put10 L3 (noR r.p) L4 (by omega) (v := .int .i64 0) k7 (by omega) (by omega)
 simp only [roSet, noR, Int.natCast_zero] at hR
 go_wp2_with fail
 clear q0 q1 q2 q3 q4 q5 q6 q7 q8
 obtain ⟨q0, q1, q2, q3, q4, q5, q6, q7, q8⟩ := vab BR
 have q9 : R.cell? ⟨b + 1 + 1 + 1, 0, none⟩ = some (.int .i64 0) := BE.cell 0
 refine leaves_cons (f := 112) (args := #[.pointer (some ⟨b + 1 + 1, 0, none⟩), .pointer (some ⟨b + 1 + 1 + 1, 0, none⟩)]) (by simp) (by simp [go_sem]) ?_
 refine (vbw _ _ _).mono ?_
 rintro e u' wz ⟨rfl, rfl, rfl⟩
 show Leaves _ _ _ _ [] .returning _
 exact ⟨.tuple #[roV (noR r.p), .int .i64 0], by simp [results, Tryz.results72, go_sem, q0, q1, q2, q3, q4, q5, q6, q7, q8, q9, noR], by first | exact RTellP.yes HN.out kR | (rw [HZ.out]; exact RTellP.yes HN.out kR)⟩
set_option maxRecDepth 100000 in
theorem veP (c : Cf) (A : Option Addr) (m : Nat) (r : Rt) (now : Int) (w : World) (hS : SlPI w A m c.own) (hC : CapAt w) (ha : ∀ k (hk : k < c.own.length), c.own[k].a < 4294967296) (hp : r.p.a < 4294967296) (hx : r.x < 4294967296) :
  Calls Tryz.prog 68 #[cfV c A c.own.length m, roV r, .int .i64 now] w (RTellP (askR c r now) (loseR c r now) w) := by
 obtain ⟨b, hb⟩ : ∃ b, w.heap.size = b := ⟨_, rfl⟩
 obtain ⟨W0, hW0, k0, B0, B1⟩ := Blk.al2 hb (cfC c A c.own.length m) 24 (roC r) 48
 have hs0 : W0.heap.size = b + 1 + 1 := by rw [← hW0, ← hb]; simp
 obtain ⟨W, hW, kW, C0, C1, C3, C4⟩ : ∃ W, (W0.alloc (.cells zero9 48)).alloc (.cells #[.int .i64 0] 53) = W ∧ Kp w W ∧ Blk W b 24 (cfC c A c.own.length m) ∧ Blk W (b + 1) 48 (roC r) ∧ Blk W (b + 1 + 1) 48 zero9 ∧ Blk W (b + 1 + 1 + 1) 53 #[.int .i64 0] := ⟨_, rfl, (k0.alloc _).alloc _, (B0.alloc _).alloc _, (B1.alloc _).alloc _, by rw [← hs0]; exact (Blk.new _ _ _).alloc _, by rw [← hs0]; exact Blk.new1 _ _ _ _⟩
 unfold cfC roC at hW0
 unfold zero9 at hW
 clear B0 B1 k0
 have hlt := C4.lt
 have xc0 := Blk.f C0 rfl
 have xp0 := Blk.f C1 rfl
 have hbo : bothB c r = (okCf c && okR r) := rfl
 go_enter_defers Tryz.func68, Tryz.ntmps68
 go_wp2_with fail
 refine (vbv c A m r _ (hS.keep kW) (hC.keep kW) ha hp hx).mono ?_
 rintro e w1 ⟨hY, hN, K1⟩
 have D0 := C0.keep K1
 have D1 := C1.keep K1
 have D3 := C3.keep K1
 have D4 := C4.keep K1
 have k1 := kW.trans K1
 clear xc0 xp0 hW hW0 C0 C1 C3 C4 K1
 rcases hb1 : bothB c r with _ | _
 ·obtain rfl := hN hb1
  have HN := Lib.hid (show askR c r now = 2 by unfold askR; rw [← hbo, hb1]; rfl)
  clear hY hN
  go_wp2_with fail
  refine leaves_cons (f := 109) (args := #[.pointer (some ⟨b + 1 + 1, 0, none⟩), .pointer (some ⟨b + 1 + 1 + 1, 0, none⟩)]) (by simp) (by simp [go_sem]) ?_
  refine (vdl (b + 1 + 1) (b + 1 + 1 + 1) _ _ _ _ _ _ _ _ _ _ 2 _ D3 D4 (by omega)).mono ?_
  rintro e u' wz ⟨rfl, rfl, C0, C1, hO⟩
  obtain ⟨q0, q1, q2, q3, q4, q5, q6, q7, q8⟩ := Blk.v9 C0 (.int .u32 0) (.int .i64 0) (.int .i64 0) (.int .i64 0) (.int .i64 0) (.int .i64 0) (.int .u32 0) (.int .i64 0) (.bool false) rfl
  have q9 : wz.cell? ⟨b + 1 + 1 + 1, 0, none⟩ = some (.int .i64 2) := C1.cell 0
  show Leaves _ _ _ _ [] .returning _
  exact ⟨.tuple #[roV zeroR, .int .i64 2], by simp [results, Tryz.results68, go_sem, zeroR, noR, q0, q1, q2, q3, q4, q5, q6, q7, q8, q9], RTellP.no HN.out (by decide) (hO.kp k1 (by simp; omega))⟩
 obtain rfl := hY hb1
 clear hY hN
 go_wp2_with fail
 refine (vbR now _).mono ?_
 rintro e w3 ⟨hY, hN, K3⟩
 have F0 := D0.keep K3
 have F1 := D1.keep K3
 have F3 := D3.keep K3
 have F4 := D4.keep K3
 have k3 := k1.trans K3
 clear D0 D1 D3 D4 K3 k1
 rcases hb3 : okNow now with _ | _
 ·obtain rfl := hN hb3
  have HN := Lib.hid (show askR c r now = 170 by unfold askR; rw [← hbo, hb1, hb3]; rfl)
  clear hY hN
  go_wp2_with fail
  refine leaves_cons (f := 109) (args := #[.pointer (some ⟨b + 1 + 1, 0, none⟩), .pointer (some ⟨b + 1 + 1 + 1, 0, none⟩)]) (by simp) (by simp [go_sem]) ?_
  refine (vdl (b + 1 + 1) (b + 1 + 1 + 1) _ _ _ _ _ _ _ _ _ _ 170 _ F3 F4 (by omega)).mono ?_
  rintro e u' wz ⟨rfl, rfl, C0, C1, hO⟩
  obtain ⟨q0, q1, q2, q3, q4, q5, q6, q7, q8⟩ := Blk.v9 C0 (.int .u32 0) (.int .i64 0) (.int .i64 0) (.int .i64 0) (.int .i64 0) (.int .i64 0) (.int .u32 0) (.int .i64 0) (.bool false) rfl
  have q9 : wz.cell? ⟨b + 1 + 1 + 1, 0, none⟩ = some (.int .i64 170) := C1.cell 0
  show Leaves _ _ _ _ [] .returning _
  exact ⟨.tuple #[roV zeroR, .int .i64 170], by simp [results, Tryz.results68, go_sem, zeroR, noR, q0, q1, q2, q3, q4, q5, q6, q7, q8, q9], RTellP.no HN.out (by decide) (hO.kp k3 (by simp; omega))⟩
 obtain rfl := hY hb3
 clear hY hN
 have HN := Lib.hid (show askR c r now = 0 by unfold askR; rw [← hbo, hb1, hb3]; rfl)
 rw [hbo, Bool.and_eq_true] at hb1
 have hrr := (vat r).1 hb1.2
 have t3 := vaN hb1.1 3 (by omega)
 have t4 := vaN hb1.1 4 (by omega)
 simp only [leastS, Cf.t] at t3 t4
 rw [okNow, vaa] at hb3
 have hn0 : 0 ≤ now := hb3.1
 have hn1 : now ≤ 4611686018427387904 := by omega
 have ss := vaI hrr.2
 clear hb1 hbo
 have xc0 := Blk.f F0 rfl
 have xp0 := Blk.f F1 rfl
 by_cases h2 : r.s = 2
 ·have e2 := beqT h2
  have hf : loseR c r now = lostR c r now := by unfold loseR; rw [if_pos h2]
  obtain ⟨x, hxx⟩ : ∃ x, lostR c r now = x := ⟨_, rfl⟩
  have HZ := Lib.hid (hf.trans hxx)
  have HX := Lib.hid hxx
  clear hxx hf ss h2
  go_wp2_with fail
  have HL := vcU c A c.own.length m r now w3 hn0 hn1 (by omega) t3.2
  rw [HX.out] at HL
  refine HL.mono ?_
  rintro e w4 ⟨rfl, K4⟩
  have G3 := F3.keep K4
  have G4 := F4.keep K4
  have k4 := k3.trans K4
  clear xc0 xp0 F0 F1 F3 F4 K4 k3
  obtain ⟨q0, q1, q2, q3, q4, q5, q6, q7, q8⟩ := Blk.v9 G3 (.int .u32 0) (.int .i64 0) (.int .i64 0) (.int .i64 0) (.int .i64 0) (.int .i64 0) (.int .u32 0) (.int .i64 0) (.bool false) rfl
  have z0 := Blk.frozen G3
  have d0 : w4.cell? ⟨b + 1 + 1 + 1, 0, none⟩ = some (.int .i64 0) := G4.cell 0
  have zd := Blk.frozen G4
  obtain ⟨R, hR, BR, BE, kR⟩ := Blk.put10 G3 x G4 (by omega) (v := .int .i64 0) k4 (by omega) (by omega)
  simp only [roSet] at hR
  go_wp2_with fail
  clear q0 q1 q2 q3 q4 q5 q6 q7 q8
  obtain ⟨q0, q1, q2, q3, q4, q5, q6, q7, q8⟩ := vab BR
  have q9 : R.cell? ⟨b + 1 + 1 + 1, 0, none⟩ = some (.int .i64 0) := BE.cell 0
  refine leaves_cons (f := 109) (args := #[.pointer (some ⟨b + 1 + 1, 0, none⟩), .pointer (some ⟨b + 1 + 1 + 1, 0, none⟩)]) (by simp) (by simp [go_sem]) ?_
  refine (vdL _ _ _).mono ?_
  rintro e u' wz ⟨rfl, rfl, rfl⟩
  show Leaves _ _ _ _ [] .returning _
  exact ⟨.tuple #[roV x, .int .i64 0], by simp [results, Tryz.results68, go_sem, q0, q1, q2, q3, q4, q5, q6, q7, q8, q9], by first | exact RTellP.yes HN.out kR | (rw [HZ.out]; exact RTellP.yes HN.out kR)⟩
 ·have e2 := beqF h2
  have hf : loseR c r now = r := by unfold loseR; rw [if_neg h2]
  have HZ := Lib.hid hf
  clear hf ss
  obtain ⟨q0, q1, q2, q3, q4, q5, q6, q7, q8⟩ := Blk.v9 F3 (.int .u32 0) (.int .i64 0) (.int .i64 0) (.int .i64 0) (.int .i64 0) (.int .i64 0) (.int .u32 0) (.int .i64 0) (.bool false) rfl
  have z0 := Blk.frozen F3
  have d0 : w3.cell? ⟨b + 1 + 1 + 1, 0, none⟩ = some (.int .i64 0) := F4.cell 0
  have zd := Blk.frozen F4
  obtain ⟨R, hR, BR, BE, kR⟩ := Blk.put10 F3 r F4 (by omega) (v := .int .i64 0) k3 (by omega) (by omega)
  simp only [roSet] at hR
  go_wp2_with fail
  clear q0 q1 q2 q3 q4 q5 q6 q7 q8
  obtain ⟨q0, q1, q2, q3, q4, q5, q6, q7, q8⟩ := vab BR
  have q9 : R.cell? ⟨b + 1 + 1 + 1, 0, none⟩ = some (.int .i64 0) := BE.cell 0
  refine leaves_cons (f := 109) (args := #[.pointer (some ⟨b + 1 + 1, 0, none⟩), .pointer (some ⟨b + 1 + 1 + 1, 0, none⟩)]) (by simp) (by simp [go_sem]) ?_
  refine (vdL _ _ _).mono ?_
  rintro e u' wz ⟨rfl, rfl, rfl⟩
  show Leaves _ _ _ _ [] .returning _
  exact ⟨.tuple #[roV r, .int .i64 0], by simp [results, Tryz.results68, go_sem, q0, q1, q2, q3, q4, q5, q6, q7, q8, q9], by first | exact RTellP.yes HN.out kR | (rw [HZ.out]; exact RTellP.yes HN.out kR)⟩
set_option maxRecDepth 100000 in
theorem veQ (c : Cf) (A : Option Addr) (m : Nat) (r : Rt) (h : Hd) (now : Int) (w : World) (hS : SlPI w A m c.own) (hC : CapAt w) (ha : ∀ k (hk : k < c.own.length), c.own[k].a < 4294967296) (hp : r.p.a < 4294967296) (hx : r.x < 4294967296) (hha : h.a < 4294967296) :
  Calls Tryz.prog 61 #[cfV c A c.own.length m, roV r, .agg #[.int .i64 h.f, .int .u32 (h.a : Int), .int .i64 h.m], .int .i64 now] w (RTellP (askH c r h now) (hearR c r h now) w) := by
 obtain ⟨b, hb⟩ : ∃ b, w.heap.size = b := ⟨_, rfl⟩
 obtain ⟨W0, hW0, k0, B0, B1, B2⟩ := Blk.al3 hb (cfC c A c.own.length m) 24 (roC r) 48 #[.int .i64 h.f, .int .u32 (h.a : Int), .int .i64 h.m] 31
 have hs0 : W0.heap.size = b + 1 + 1 + 1 := by rw [← hW0, ← hb]; simp
 obtain ⟨W, hW, kW, C0, C1, C2, C3, C4⟩ : ∃ W, (W0.alloc (.cells zero9 48)).alloc (.cells #[.int .i64 0] 53) = W ∧ Kp w W ∧ Blk W b 24 (cfC c A c.own.length m) ∧ Blk W (b + 1) 48 (roC r) ∧ Blk W (b + 1 + 1) 31 #[.int .i64 h.f, .int .u32 (h.a : Int), .int .i64 h.m] ∧ Blk W (b + 1 + 1 + 1) 48 zero9 ∧ Blk W (b + 1 + 1 + 1 + 1) 53 #[.int .i64 0] := ⟨_, rfl, (k0.alloc _).alloc _, (B0.alloc _).alloc _, (B1.alloc _).alloc _, (B2.alloc _).alloc _, by rw [← hs0]; exact (Blk.new _ _ _).alloc _, by rw [← hs0]; exact Blk.new1 _ _ _ _⟩
 unfold cfC roC at hW0
 unfold zero9 at hW
 clear B0 B1 B2 k0
 have hlt := C4.lt
 have xc0 := Blk.f C0 rfl
 have xp0 := Blk.f C1 rfl
 have hbo : bothB c r = (okCf c && okR r) := rfl
 go_enter_defers Tryz.func61, Tryz.ntmps61
 go_wp2_with fail
 refine (vbv c A m r _ (hS.keep kW) (hC.keep kW) ha hp hx).mono ?_
 rintro e w1 ⟨hY, hN, K1⟩
 have D0 := C0.keep K1
 have D1 := C1.keep K1
 have D2 := C2.keep K1
 have D3 := C3.keep K1
 have D4 := C4.keep K1
 have k1 := kW.trans K1
 clear xc0 xp0 hW hW0 C0 C1 C2 C3 C4 K1
 rcases hb1 : bothB c r with _ | _
 ·obtain rfl := hN hb1
  have HN := Lib.hid (show askH c r h now = 2 by unfold askH; rw [← hbo, hb1]; rfl)
  clear hY hN
  go_wp2_with fail
  refine leaves_cons (f := 104) (args := #[.pointer (some ⟨b + 1 + 1 + 1, 0, none⟩), .pointer (some ⟨b + 1 + 1 + 1 + 1, 0, none⟩)]) (by simp) (by simp [go_sem]) ?_
  refine (vbS (b + 1 + 1 + 1) (b + 1 + 1 + 1 + 1) _ _ _ _ _ _ _ _ _ _ 2 _ D3 D4 (by omega)).mono ?_
  rintro e u' wz ⟨rfl, rfl, C0, C1, hO⟩
  obtain ⟨q0, q1, q2, q3, q4, q5, q6, q7, q8⟩ := Blk.v9 C0 (.int .u32 0) (.int .i64 0) (.int .i64 0) (.int .i64 0) (.int .i64 0) (.int .i64 0) (.int .u32 0) (.int .i64 0) (.bool false) rfl
  have q9 : wz.cell? ⟨b + 1 + 1 + 1 + 1, 0, none⟩ = some (.int .i64 2) := C1.cell 0
  show Leaves _ _ _ _ [] .returning _
  exact ⟨.tuple #[roV zeroR, .int .i64 2], by simp [results, Tryz.results61, go_sem, zeroR, noR, q0, q1, q2, q3, q4, q5, q6, q7, q8, q9], RTellP.no HN.out (by decide) (hO.kp k1 (by simp; omega))⟩
 obtain rfl := hY hb1
 clear hY hN
 have xh0 := Blk.f D2 rfl
 go_wp2_with fail
 refine (vei h _ hha).mono ?_
 rintro e w2 ⟨hY, hN, K2⟩
 have E0 := D0.keep K2
 have E1 := D1.keep K2
 have E2 := D2.keep K2
 have E3 := D3.keep K2
 have E4 := D4.keep K2
 have k2 := k1.trans K2
 clear xh0 D0 D1 D2 D3 D4 K2 k1
 rcases hb2 : okHd h with _ | _
 ·obtain rfl := hN hb2
  have HN := Lib.hid (show askH c r h now = 2 by unfold askH; rw [← hbo, hb1, hb2]; rfl)
  clear hY hN
  go_wp2_with fail
  refine leaves_cons (f := 104) (args := #[.pointer (some ⟨b + 1 + 1 + 1, 0, none⟩), .pointer (some ⟨b + 1 + 1 + 1 + 1, 0, none⟩)]) (by simp) (by simp [go_sem]) ?_
  refine (vbS (b + 1 + 1 + 1) (b + 1 + 1 + 1 + 1) _ _ _ _ _ _ _ _ _ _ 2 _ E3 E4 (by omega)).mono ?_
  rintro e u' wz ⟨rfl, rfl, C0, C1, hO⟩
  obtain ⟨q0, q1, q2, q3, q4, q5, q6, q7, q8⟩ := Blk.v9 C0 (.int .u32 0) (.int .i64 0) (.int .i64 0) (.int .i64 0) (.int .i64 0) (.int .i64 0) (.int .u32 0) (.int .i64 0) (.bool false) rfl
  have q9 : wz.cell? ⟨b + 1 + 1 + 1 + 1, 0, none⟩ = some (.int .i64 2) := C1.cell 0
  show Leaves _ _ _ _ [] .returning _
  exact ⟨.tuple #[roV zeroR, .int .i64 2], by simp [results, Tryz.results61, go_sem, zeroR, noR, q0, q1, q2, q3, q4, q5, q6, q7, q8, q9], RTellP.no HN.out (by decide) (hO.kp k2 (by simp; omega))⟩
 obtain rfl := hY hb2
 clear hY hN
 go_wp2_with fail
 refine (vbR now _).mono ?_
 rintro e w3 ⟨hY, hN, K3⟩
 have F0 := E0.keep K3
 have F1 := E1.keep K3
 have F2 := E2.keep K3
 have F3 := E3.keep K3
 have F4 := E4.keep K3
 have k3 := k2.trans K3
 clear E0 E1 E2 E3 E4 K3 k2
 rcases hb3 : okNow now with _ | _
 ·obtain rfl := hN hb3
  have HN := Lib.hid (show askH c r h now = 170 by unfold askH; rw [← hbo, hb1, hb2, hb3]; rfl)
  clear hY hN
  go_wp2_with fail
  refine leaves_cons (f := 104) (args := #[.pointer (some ⟨b + 1 + 1 + 1, 0, none⟩), .pointer (some ⟨b + 1 + 1 + 1 + 1, 0, none⟩)]) (by simp) (by simp [go_sem]) ?_
  refine (vbS (b + 1 + 1 + 1) (b + 1 + 1 + 1 + 1) _ _ _ _ _ _ _ _ _ _ 170 _ F3 F4 (by omega)).mono ?_
  rintro e u' wz ⟨rfl, rfl, C0, C1, hO⟩
  obtain ⟨q0, q1, q2, q3, q4, q5, q6, q7, q8⟩ := Blk.v9 C0 (.int .u32 0) (.int .i64 0) (.int .i64 0) (.int .i64 0) (.int .i64 0) (.int .i64 0) (.int .u32 0) (.int .i64 0) (.bool false) rfl
  have q9 : wz.cell? ⟨b + 1 + 1 + 1 + 1, 0, none⟩ = some (.int .i64 170) := C1.cell 0
  show Leaves _ _ _ _ [] .returning _
  exact ⟨.tuple #[roV zeroR, .int .i64 170], by simp [results, Tryz.results61, go_sem, zeroR, noR, q0, q1, q2, q3, q4, q5, q6, q7, q8, q9], RTellP.no HN.out (by decide) (hO.kp k3 (by simp; omega))⟩
 obtain rfl := hY hb3
 clear hY hN
 have HN := Lib.hid (show askH c r h now = 0 by unfold askH; rw [← hbo, hb1, hb2, hb3]; rfl)
 rw [hbo, Bool.and_eq_true] at hb1
 have HH := vkJ c A c.own.length m r h now w3 hb1.1 hb1.2 hb2 hb3
 obtain ⟨x, hxx⟩ : ∃ x, hearR c r h now = x := ⟨_, rfl⟩
 rw [hxx] at HH
 have HZ := Lib.hid hxx
 clear hb1 hb2 hb3 hbo hxx
 have xc0 := Blk.f F0 rfl
 have xp0 := Blk.f F1 rfl
 have xh0 := Blk.f F2 rfl
 go_wp2_with fail
 refine HH.mono ?_
 rintro e w4 ⟨rfl, K4⟩
 have G3 := F3.keep K4
 have G4 := F4.keep K4
 have k4 := k3.trans K4
 clear xc0 xp0 xh0 F0 F1 F2 F3 F4 K4 k3
 obtain ⟨q0, q1, q2, q3, q4, q5, q6, q7, q8⟩ := Blk.v9 G3 (.int .u32 0) (.int .i64 0) (.int .i64 0) (.int .i64 0) (.int .i64 0) (.int .i64 0) (.int .u32 0) (.int .i64 0) (.bool false) rfl
 have z0 := Blk.frozen G3
 have d0 : w4.cell? ⟨b + 1 + 1 + 1 + 1, 0, none⟩ = some (.int .i64 0) := G4.cell 0
 have zd := Blk.frozen G4
 obtain ⟨R, hR, BR, BE, kR⟩ := Blk.put10 G3 x G4 (by omega) (v := .int .i64 0) k4 (by omega) (by omega)
 simp only [roSet] at hR
 go_wp2_with fail
 clear q0 q1 q2 q3 q4 q5 q6 q7 q8
 obtain ⟨q0, q1, q2, q3, q4, q5, q6, q7, q8⟩ := vab BR
 have q9 : R.cell? ⟨b + 1 + 1 + 1 + 1, 0, none⟩ = some (.int .i64 0) := BE.cell 0
 refine leaves_cons (f := 104) (args := #[.pointer (some ⟨b + 1 + 1 + 1, 0, none⟩), .pointer (some ⟨b + 1 + 1 + 1 + 1, 0, none⟩)]) (by simp) (by simp [go_sem]) ?_
 refine (vgQ _ _ _).mono ?_
 rintro e u' wz ⟨rfl, rfl, rfl⟩
 show Leaves _ _ _ _ [] .returning _
 exact ⟨.tuple #[roV x, .int .i64 0], by simp [results, Tryz.results61, go_sem, q0, q1, q2, q3, q4, q5, q6, q7, q8, q9], by first | exact RTellP.yes HN.out kR | (rw [HZ.out]; exact RTellP.yes HN.out kR)⟩
end

end Go.Proofs.YtffckpkikdlbpaaGreatDoor
