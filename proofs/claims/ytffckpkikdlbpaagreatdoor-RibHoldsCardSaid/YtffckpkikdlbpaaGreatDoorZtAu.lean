/- Lemmas and contracts for the theorem of this claim: RoX. -/
import Derived.Test.YtffckpkikdlbpaaGreatDoorZtAs
set_option linter.unusedSimpArgs false
set_option linter.unusedVariables false
namespace Go.Proofs.YtffckpkikdlbpaaGreatDoor
open Go.RowKit
set_option maxRecDepth 100000 in
set_option maxHeartbeats 2000000 in
theorem hr2gexA (c : Cf) (A : Option Addr) (n m : Nat) (r : Rt) (h : Hd) (now : Int) (w : World) (hn0 : 0 ≤ now) (hn1 : now ≤ 4611686018427387904) (ht0 : 0 ≤ c.t2) (ht1 : c.t2 ≤ 1000000) (hu0 : 0 ≤ c.t3) (hu1 : c.t3 ≤ 1000000) (hm0 : 1 ≤ h.m) (hm1 : h.m ≤ 16) (M : Int) (hM : h.m + 1 = M) (hM2 : M ≤ 16) (e1 : (r.s == 1) = false) (e2 : (r.s == 2) = true) (ef : (h.f == r.f) = true) (ex : ((h.a : Int) == (r.x : Int)) = false) (el : decide (M < r.m) = false) :
    Calls Tryz.prog 108 #[cfV c A n m, roV r, .agg #[.int .i64 h.f, .int .u32 (h.a : Int), .int .i64 h.m], .int .i64 now] w (RRetP r w) := by
  obtain ⟨b, hb⟩ : ∃ b, w.heap.size = b := ⟨_, rfl⟩
  obtain ⟨W0, hW0, k0, B0, B1, B2⟩ : ∃ W, ((w.alloc (.cells (cfC c A n m) 24)).alloc (.cells (roC r) 48)).alloc (.cells #[.int .i64 h.f, .int .u32 (h.a : Int), .int .i64 h.m] 31) = W ∧ Kp w W ∧ Blk W b 24 (cfC c A n m) ∧ Blk W (b + 1) 48 (roC r) ∧ Blk W (b + 1 + 1) 31 #[.int .i64 h.f, .int .u32 (h.a : Int), .int .i64 h.m] := ⟨_, rfl, (((Kp.refl _).alloc _).alloc _).alloc _, by rw [← hb]; exact ((Blk.new w _ _).alloc _).alloc _, by rw [← hb]; exact (Blk.new1 w _ _ _).alloc _, by rw [← hb]; exact Blk.new2 w _ _ _ _⟩
  have hs0 : W0.heap.size = b + 1 + 1 + 1 := by rw [← hW0, ← hb]; simp
  obtain ⟨W, hW, kW, C0, C1, C2, C3, hs⟩ : ∃ W, W0.alloc (.cells zero9 48) = W ∧ Kp w W ∧ Blk W b 24 (cfC c A n m) ∧ Blk W (b + 1) 48 (roC r) ∧ Blk W (b + 1 + 1) 31 #[.int .i64 h.f, .int .u32 (h.a : Int), .int .i64 h.m] ∧ Blk W (b + 1 + 1 + 1) 48 zero9 ∧ W.heap.size = b + 1 + 1 + 1 + 1 := ⟨_, rfl, k0.alloc _, B0.alloc _, B1.alloc _, B2.alloc _, by rw [← hs0]; exact Blk.new _ _ _, by simp [hs0]⟩
  obtain ⟨X, hX, kX, D0, D1, D2, D3, D4⟩ : ∃ X, W.alloc (.cells #[.int .u32 (r.p.a : Int), .int .i64 r.p.l, .int .i64 2, .int .i64 M, .int .i64 0, .int .i64 h.f, .int .u32 (h.a : Int), .int .i64 (now + c.t2), .bool true] 48) = X ∧ Kp w X ∧ Blk X b 24 (cfC c A n m) ∧ Blk X (b + 1) 48 (roC r) ∧ Blk X (b + 1 + 1) 31 #[.int .i64 h.f, .int .u32 (h.a : Int), .int .i64 h.m] ∧ Blk X (b + 1 + 1 + 1) 48 zero9 ∧ Blk X (b + 1 + 1 + 1 + 1) 48 #[.int .u32 (r.p.a : Int), .int .i64 r.p.l, .int .i64 2, .int .i64 M, .int .i64 0, .int .i64 h.f, .int .u32 (h.a : Int), .int .i64 (now + c.t2), .bool true] := ⟨_, rfl, kW.alloc _, C0.alloc _, C1.alloc _, C2.alloc _, C3.alloc _, by rw [← hs]; exact Blk.new _ _ _⟩
  unfold cfC roC at hW0
  unfold zero9 at hW
  have wc2 : W.cell? ⟨b, 2, none⟩ = some (.int .i64 c.t2) := C0.cell 2
  have wc3 : W.cell? ⟨b, 3, none⟩ = some (.int .i64 c.t3) := C0.cell 3
  have wp0 : W.cell? ⟨b + 1, 0, none⟩ = some (.int .u32 (r.p.a : Int)) := C1.cell 0
  have wp1 : W.cell? ⟨b + 1, 1, none⟩ = some (.int .i64 r.p.l) := C1.cell 1
  have wh0 : W.cell? ⟨b + 1 + 1, 0, none⟩ = some (.int .i64 h.f) := C2.cell 0
  have wh1 : W.cell? ⟨b + 1 + 1, 1, none⟩ = some (.int .u32 (h.a : Int)) := C2.cell 1
  have wh2 : W.cell? ⟨b + 1 + 1, 2, none⟩ = some (.int .i64 h.m) := C2.cell 2
  have xc0 : X.cell? ⟨b, 0, none⟩ = some (.int .i64 c.t0) := D0.cell 0
  have xc1 : X.cell? ⟨b, 1, none⟩ = some (.int .i64 c.t1) := D0.cell 1
  have xc2 : X.cell? ⟨b, 2, none⟩ = some (.int .i64 c.t2) := D0.cell 2
  have xc3 : X.cell? ⟨b, 3, none⟩ = some (.int .i64 c.t3) := D0.cell 3
  have xc4 : X.cell? ⟨b, 4, none⟩ = some (.int .i64 c.t4) := D0.cell 4
  have xc5 : X.cell? ⟨b, 5, none⟩ = some (.int .i64 c.t5) := D0.cell 5
  have xc6 : X.cell? ⟨b, 6, none⟩ = some (.int .i64 c.t6) := D0.cell 6
  have xc7 : X.cell? ⟨b, 7, none⟩ = some (.int .i64 c.cap) := D0.cell 7
  have xc8 : X.cell? ⟨b, 8, none⟩ = some (.slice A n m) := D0.cell 8
  have xp0 : X.cell? ⟨b + 1, 0, none⟩ = some (.int .u32 (r.p.a : Int)) := D1.cell 0
  have xp1 : X.cell? ⟨b + 1, 1, none⟩ = some (.int .i64 r.p.l) := D1.cell 1
  have xp2 : X.cell? ⟨b + 1, 2, none⟩ = some (.int .i64 r.s) := D1.cell 2
  have xp3 : X.cell? ⟨b + 1, 3, none⟩ = some (.int .i64 r.m) := D1.cell 3
  have xp4 : X.cell? ⟨b + 1, 4, none⟩ = some (.int .i64 r.l) := D1.cell 4
  have xp5 : X.cell? ⟨b + 1, 5, none⟩ = some (.int .i64 r.f) := D1.cell 5
  have xp6 : X.cell? ⟨b + 1, 6, none⟩ = some (.int .u32 (r.x : Int)) := D1.cell 6
  have xp7 : X.cell? ⟨b + 1, 7, none⟩ = some (.int .i64 r.d) := D1.cell 7
  have xp8 : X.cell? ⟨b + 1, 8, none⟩ = some (.bool r.c) := D1.cell 8
  have xh0 : X.cell? ⟨b + 1 + 1, 0, none⟩ = some (.int .i64 h.f) := D2.cell 0
  have xh1 : X.cell? ⟨b + 1 + 1, 1, none⟩ = some (.int .u32 (h.a : Int)) := D2.cell 1
  have xn0 : X.cell? ⟨b + 1 + 1 + 1 + 1, 0, none⟩ = some (.int .u32 (r.p.a : Int)) := D4.cell 0
  have xn1 : X.cell? ⟨b + 1 + 1 + 1 + 1, 1, none⟩ = some (.int .i64 r.p.l) := D4.cell 1
  have xn2 : X.cell? ⟨b + 1 + 1 + 1 + 1, 2, none⟩ = some (.int .i64 2) := D4.cell 2
  have xn3 : X.cell? ⟨b + 1 + 1 + 1 + 1, 3, none⟩ = some (.int .i64 M) := D4.cell 3
  have xn4 : X.cell? ⟨b + 1 + 1 + 1 + 1, 4, none⟩ = some (.int .i64 0) := D4.cell 4
  have xn5 : X.cell? ⟨b + 1 + 1 + 1 + 1, 5, none⟩ = some (.int .i64 h.f) := D4.cell 5
  have xn6 : X.cell? ⟨b + 1 + 1 + 1 + 1, 6, none⟩ = some (.int .u32 (h.a : Int)) := D4.cell 6
  have xn7 : X.cell? ⟨b + 1 + 1 + 1 + 1, 7, none⟩ = some (.int .i64 (now + c.t2)) := D4.cell 7
  have xn8 : X.cell? ⟨b + 1 + 1 + 1 + 1, 8, none⟩ = some (.bool true) := D4.cell 8
  have q0 : X.cell? ⟨b + 1 + 1 + 1, 0, none⟩ = some (.int .u32 0) := D3.cell 0
  have q1 : X.cell? ⟨b + 1 + 1 + 1, 1, none⟩ = some (.int .i64 0) := D3.cell 1
  have q2 : X.cell? ⟨b + 1 + 1 + 1, 2, none⟩ = some (.int .i64 0) := D3.cell 2
  have q3 : X.cell? ⟨b + 1 + 1 + 1, 3, none⟩ = some (.int .i64 0) := D3.cell 3
  have q4 : X.cell? ⟨b + 1 + 1 + 1, 4, none⟩ = some (.int .i64 0) := D3.cell 4
  have q5 : X.cell? ⟨b + 1 + 1 + 1, 5, none⟩ = some (.int .i64 0) := D3.cell 5
  have q6 : X.cell? ⟨b + 1 + 1 + 1, 6, none⟩ = some (.int .u32 0) := D3.cell 6
  have q7 : X.cell? ⟨b + 1 + 1 + 1, 7, none⟩ = some (.int .i64 0) := D3.cell 7
  have q8 : X.cell? ⟨b + 1 + 1 + 1, 8, none⟩ = some (.bool false) := D3.cell 8
  have z0 := D3.frozen 0
  have z1 := D3.frozen 1
  have z2 := D3.frozen 2
  have z3 := D3.frozen 3
  have z4 := D3.frozen 4
  have z5 := D3.frozen 5
  have z6 := D3.frozen 6
  have z7 := D3.frozen 7
  have z8 := D3.frozen 8
  obtain ⟨R, hR, BR, kR⟩ : ∃ R, (((((((((X.setCell ⟨b + 1 + 1 + 1, 0, none⟩ (.int .u32 (r.p.a : Int))).setCell ⟨b + 1 + 1 + 1, 1, none⟩ (.int .i64 r.p.l)).setCell ⟨b + 1 + 1 + 1, 2, none⟩ (.int .i64 r.s)).setCell ⟨b + 1 + 1 + 1, 3, none⟩ (.int .i64 r.m)).setCell ⟨b + 1 + 1 + 1, 4, none⟩ (.int .i64 r.l)).setCell ⟨b + 1 + 1 + 1, 5, none⟩ (.int .i64 r.f)).setCell ⟨b + 1 + 1 + 1, 6, none⟩ (.int .u32 (r.x : Int))).setCell ⟨b + 1 + 1 + 1, 7, none⟩ (.int .i64 r.d)).setCell ⟨b + 1 + 1 + 1, 8, none⟩ (.bool r.c)) = R ∧ Blk R (b + 1 + 1 + 1) 48 (roC r) ∧ Kp w R := ⟨_, rfl, Blk.putRo D3 r, Kp.putRo kX (by omega) r⟩
  obtain ⟨u0, u1, u2, u3, u4, u5, u6, u7, u8⟩ := ro_cells BR
  go_enter Tryz.func108, Tryz.ntmps108
  go_wp2_with fail
  exact ⟨rfl, roV r, by simp [results, Tryz.results108, go_sem, lostR, u0, u1, u2, u3, u4, u5, u6, u7, u8], rfl, kR⟩
set_option maxRecDepth 100000 in
set_option maxHeartbeats 2000000 in
theorem hr3ltA (c : Cf) (A : Option Addr) (n m : Nat) (r : Rt) (h : Hd) (now : Int) (w : World) (hn0 : 0 ≤ now) (hn1 : now ≤ 4611686018427387904) (ht0 : 0 ≤ c.t2) (ht1 : c.t2 ≤ 1000000) (hu0 : 0 ≤ c.t3) (hu1 : c.t3 ≤ 1000000) (hm0 : 1 ≤ h.m) (hm1 : h.m ≤ 16) (M : Int) (hM : h.m + 1 = M) (hM2 : M ≤ 16) (e1 : (r.s == 1) = false) (e2 : (r.s == 2) = false) (e3 : (r.s == 3) = true) (el : decide (M < r.l) = true) :
    Calls Tryz.prog 108 #[cfV c A n m, roV r, .agg #[.int .i64 h.f, .int .u32 (h.a : Int), .int .i64 h.m], .int .i64 now] w (RRetP (⟨r.p, 2, M, 0, h.f, h.a, now + c.t2, true⟩ : Rt) w) := by
  obtain ⟨b, hb⟩ : ∃ b, w.heap.size = b := ⟨_, rfl⟩
  obtain ⟨W0, hW0, k0, B0, B1, B2⟩ : ∃ W, ((w.alloc (.cells (cfC c A n m) 24)).alloc (.cells (roC r) 48)).alloc (.cells #[.int .i64 h.f, .int .u32 (h.a : Int), .int .i64 h.m] 31) = W ∧ Kp w W ∧ Blk W b 24 (cfC c A n m) ∧ Blk W (b + 1) 48 (roC r) ∧ Blk W (b + 1 + 1) 31 #[.int .i64 h.f, .int .u32 (h.a : Int), .int .i64 h.m] := ⟨_, rfl, (((Kp.refl _).alloc _).alloc _).alloc _, by rw [← hb]; exact ((Blk.new w _ _).alloc _).alloc _, by rw [← hb]; exact (Blk.new1 w _ _ _).alloc _, by rw [← hb]; exact Blk.new2 w _ _ _ _⟩
  have hs0 : W0.heap.size = b + 1 + 1 + 1 := by rw [← hW0, ← hb]; simp
  obtain ⟨W, hW, kW, C0, C1, C2, C3, hs⟩ : ∃ W, W0.alloc (.cells zero9 48) = W ∧ Kp w W ∧ Blk W b 24 (cfC c A n m) ∧ Blk W (b + 1) 48 (roC r) ∧ Blk W (b + 1 + 1) 31 #[.int .i64 h.f, .int .u32 (h.a : Int), .int .i64 h.m] ∧ Blk W (b + 1 + 1 + 1) 48 zero9 ∧ W.heap.size = b + 1 + 1 + 1 + 1 := ⟨_, rfl, k0.alloc _, B0.alloc _, B1.alloc _, B2.alloc _, by rw [← hs0]; exact Blk.new _ _ _, by simp [hs0]⟩
  obtain ⟨X, hX, kX, D0, D1, D2, D3, D4⟩ : ∃ X, W.alloc (.cells #[.int .u32 (r.p.a : Int), .int .i64 r.p.l, .int .i64 2, .int .i64 M, .int .i64 0, .int .i64 h.f, .int .u32 (h.a : Int), .int .i64 (now + c.t2), .bool true] 48) = X ∧ Kp w X ∧ Blk X b 24 (cfC c A n m) ∧ Blk X (b + 1) 48 (roC r) ∧ Blk X (b + 1 + 1) 31 #[.int .i64 h.f, .int .u32 (h.a : Int), .int .i64 h.m] ∧ Blk X (b + 1 + 1 + 1) 48 zero9 ∧ Blk X (b + 1 + 1 + 1 + 1) 48 #[.int .u32 (r.p.a : Int), .int .i64 r.p.l, .int .i64 2, .int .i64 M, .int .i64 0, .int .i64 h.f, .int .u32 (h.a : Int), .int .i64 (now + c.t2), .bool true] := ⟨_, rfl, kW.alloc _, C0.alloc _, C1.alloc _, C2.alloc _, C3.alloc _, by rw [← hs]; exact Blk.new _ _ _⟩
  unfold cfC roC at hW0
  unfold zero9 at hW
  have wc2 : W.cell? ⟨b, 2, none⟩ = some (.int .i64 c.t2) := C0.cell 2
  have wc3 : W.cell? ⟨b, 3, none⟩ = some (.int .i64 c.t3) := C0.cell 3
  have wp0 : W.cell? ⟨b + 1, 0, none⟩ = some (.int .u32 (r.p.a : Int)) := C1.cell 0
  have wp1 : W.cell? ⟨b + 1, 1, none⟩ = some (.int .i64 r.p.l) := C1.cell 1
  have wh0 : W.cell? ⟨b + 1 + 1, 0, none⟩ = some (.int .i64 h.f) := C2.cell 0
  have wh1 : W.cell? ⟨b + 1 + 1, 1, none⟩ = some (.int .u32 (h.a : Int)) := C2.cell 1
  have wh2 : W.cell? ⟨b + 1 + 1, 2, none⟩ = some (.int .i64 h.m) := C2.cell 2
  have xc0 : X.cell? ⟨b, 0, none⟩ = some (.int .i64 c.t0) := D0.cell 0
  have xc1 : X.cell? ⟨b, 1, none⟩ = some (.int .i64 c.t1) := D0.cell 1
  have xc2 : X.cell? ⟨b, 2, none⟩ = some (.int .i64 c.t2) := D0.cell 2
  have xc3 : X.cell? ⟨b, 3, none⟩ = some (.int .i64 c.t3) := D0.cell 3
  have xc4 : X.cell? ⟨b, 4, none⟩ = some (.int .i64 c.t4) := D0.cell 4
  have xc5 : X.cell? ⟨b, 5, none⟩ = some (.int .i64 c.t5) := D0.cell 5
  have xc6 : X.cell? ⟨b, 6, none⟩ = some (.int .i64 c.t6) := D0.cell 6
  have xc7 : X.cell? ⟨b, 7, none⟩ = some (.int .i64 c.cap) := D0.cell 7
  have xc8 : X.cell? ⟨b, 8, none⟩ = some (.slice A n m) := D0.cell 8
  have xp0 : X.cell? ⟨b + 1, 0, none⟩ = some (.int .u32 (r.p.a : Int)) := D1.cell 0
  have xp1 : X.cell? ⟨b + 1, 1, none⟩ = some (.int .i64 r.p.l) := D1.cell 1
  have xp2 : X.cell? ⟨b + 1, 2, none⟩ = some (.int .i64 r.s) := D1.cell 2
  have xp3 : X.cell? ⟨b + 1, 3, none⟩ = some (.int .i64 r.m) := D1.cell 3
  have xp4 : X.cell? ⟨b + 1, 4, none⟩ = some (.int .i64 r.l) := D1.cell 4
  have xp5 : X.cell? ⟨b + 1, 5, none⟩ = some (.int .i64 r.f) := D1.cell 5
  have xp6 : X.cell? ⟨b + 1, 6, none⟩ = some (.int .u32 (r.x : Int)) := D1.cell 6
  have xp7 : X.cell? ⟨b + 1, 7, none⟩ = some (.int .i64 r.d) := D1.cell 7
  have xp8 : X.cell? ⟨b + 1, 8, none⟩ = some (.bool r.c) := D1.cell 8
  have xh0 : X.cell? ⟨b + 1 + 1, 0, none⟩ = some (.int .i64 h.f) := D2.cell 0
  have xh1 : X.cell? ⟨b + 1 + 1, 1, none⟩ = some (.int .u32 (h.a : Int)) := D2.cell 1
  have xn0 : X.cell? ⟨b + 1 + 1 + 1 + 1, 0, none⟩ = some (.int .u32 (r.p.a : Int)) := D4.cell 0
  have xn1 : X.cell? ⟨b + 1 + 1 + 1 + 1, 1, none⟩ = some (.int .i64 r.p.l) := D4.cell 1
  have xn2 : X.cell? ⟨b + 1 + 1 + 1 + 1, 2, none⟩ = some (.int .i64 2) := D4.cell 2
  have xn3 : X.cell? ⟨b + 1 + 1 + 1 + 1, 3, none⟩ = some (.int .i64 M) := D4.cell 3
  have xn4 : X.cell? ⟨b + 1 + 1 + 1 + 1, 4, none⟩ = some (.int .i64 0) := D4.cell 4
  have xn5 : X.cell? ⟨b + 1 + 1 + 1 + 1, 5, none⟩ = some (.int .i64 h.f) := D4.cell 5
  have xn6 : X.cell? ⟨b + 1 + 1 + 1 + 1, 6, none⟩ = some (.int .u32 (h.a : Int)) := D4.cell 6
  have xn7 : X.cell? ⟨b + 1 + 1 + 1 + 1, 7, none⟩ = some (.int .i64 (now + c.t2)) := D4.cell 7
  have xn8 : X.cell? ⟨b + 1 + 1 + 1 + 1, 8, none⟩ = some (.bool true) := D4.cell 8
  have q0 : X.cell? ⟨b + 1 + 1 + 1, 0, none⟩ = some (.int .u32 0) := D3.cell 0
  have q1 : X.cell? ⟨b + 1 + 1 + 1, 1, none⟩ = some (.int .i64 0) := D3.cell 1
  have q2 : X.cell? ⟨b + 1 + 1 + 1, 2, none⟩ = some (.int .i64 0) := D3.cell 2
  have q3 : X.cell? ⟨b + 1 + 1 + 1, 3, none⟩ = some (.int .i64 0) := D3.cell 3
  have q4 : X.cell? ⟨b + 1 + 1 + 1, 4, none⟩ = some (.int .i64 0) := D3.cell 4
  have q5 : X.cell? ⟨b + 1 + 1 + 1, 5, none⟩ = some (.int .i64 0) := D3.cell 5
  have q6 : X.cell? ⟨b + 1 + 1 + 1, 6, none⟩ = some (.int .u32 0) := D3.cell 6
  have q7 : X.cell? ⟨b + 1 + 1 + 1, 7, none⟩ = some (.int .i64 0) := D3.cell 7
  have q8 : X.cell? ⟨b + 1 + 1 + 1, 8, none⟩ = some (.bool false) := D3.cell 8
  have z0 := D3.frozen 0
  have z1 := D3.frozen 1
  have z2 := D3.frozen 2
  have z3 := D3.frozen 3
  have z4 := D3.frozen 4
  have z5 := D3.frozen 5
  have z6 := D3.frozen 6
  have z7 := D3.frozen 7
  have z8 := D3.frozen 8
  obtain ⟨R, hR, BR, kR⟩ : ∃ R, (((((((((X.setCell ⟨b + 1 + 1 + 1, 0, none⟩ (.int .u32 (r.p.a : Int))).setCell ⟨b + 1 + 1 + 1, 1, none⟩ (.int .i64 r.p.l)).setCell ⟨b + 1 + 1 + 1, 2, none⟩ (.int .i64 2)).setCell ⟨b + 1 + 1 + 1, 3, none⟩ (.int .i64 M)).setCell ⟨b + 1 + 1 + 1, 4, none⟩ (.int .i64 0)).setCell ⟨b + 1 + 1 + 1, 5, none⟩ (.int .i64 h.f)).setCell ⟨b + 1 + 1 + 1, 6, none⟩ (.int .u32 (h.a : Int))).setCell ⟨b + 1 + 1 + 1, 7, none⟩ (.int .i64 (now + c.t2))).setCell ⟨b + 1 + 1 + 1, 8, none⟩ (.bool true)) = R ∧ Blk R (b + 1 + 1 + 1) 48 (roC (⟨r.p, 2, M, 0, h.f, h.a, now + c.t2, true⟩ : Rt)) ∧ Kp w R := ⟨_, rfl, Blk.putRo D3 (⟨r.p, 2, M, 0, h.f, h.a, now + c.t2, true⟩ : Rt), Kp.putRo kX (by omega) (⟨r.p, 2, M, 0, h.f, h.a, now + c.t2, true⟩ : Rt)⟩
  obtain ⟨u0, u1, u2, u3, u4, u5, u6, u7, u8⟩ := ro_cells BR
  go_enter Tryz.func108, Tryz.ntmps108
  go_wp2_with fail
  exact ⟨rfl, roV (⟨r.p, 2, M, 0, h.f, h.a, now + c.t2, true⟩ : Rt), by simp [results, Tryz.results108, go_sem, lostR, u0, u1, u2, u3, u4, u5, u6, u7, u8], rfl, kR⟩
set_option maxRecDepth 100000 in
set_option maxHeartbeats 2000000 in
theorem hr3geA (c : Cf) (A : Option Addr) (n m : Nat) (r : Rt) (h : Hd) (now : Int) (w : World) (hn0 : 0 ≤ now) (hn1 : now ≤ 4611686018427387904) (ht0 : 0 ≤ c.t2) (ht1 : c.t2 ≤ 1000000) (hu0 : 0 ≤ c.t3) (hu1 : c.t3 ≤ 1000000) (hm0 : 1 ≤ h.m) (hm1 : h.m ≤ 16) (M : Int) (hM : h.m + 1 = M) (hM2 : M ≤ 16) (e1 : (r.s == 1) = false) (e2 : (r.s == 2) = false) (e3 : (r.s == 3) = true) (el : decide (M < r.l) = false) :
    Calls Tryz.prog 108 #[cfV c A n m, roV r, .agg #[.int .i64 h.f, .int .u32 (h.a : Int), .int .i64 h.m], .int .i64 now] w (RRetP r w) := by
  obtain ⟨b, hb⟩ : ∃ b, w.heap.size = b := ⟨_, rfl⟩
  obtain ⟨W0, hW0, k0, B0, B1, B2⟩ : ∃ W, ((w.alloc (.cells (cfC c A n m) 24)).alloc (.cells (roC r) 48)).alloc (.cells #[.int .i64 h.f, .int .u32 (h.a : Int), .int .i64 h.m] 31) = W ∧ Kp w W ∧ Blk W b 24 (cfC c A n m) ∧ Blk W (b + 1) 48 (roC r) ∧ Blk W (b + 1 + 1) 31 #[.int .i64 h.f, .int .u32 (h.a : Int), .int .i64 h.m] := ⟨_, rfl, (((Kp.refl _).alloc _).alloc _).alloc _, by rw [← hb]; exact ((Blk.new w _ _).alloc _).alloc _, by rw [← hb]; exact (Blk.new1 w _ _ _).alloc _, by rw [← hb]; exact Blk.new2 w _ _ _ _⟩
  have hs0 : W0.heap.size = b + 1 + 1 + 1 := by rw [← hW0, ← hb]; simp
  obtain ⟨W, hW, kW, C0, C1, C2, C3, hs⟩ : ∃ W, W0.alloc (.cells zero9 48) = W ∧ Kp w W ∧ Blk W b 24 (cfC c A n m) ∧ Blk W (b + 1) 48 (roC r) ∧ Blk W (b + 1 + 1) 31 #[.int .i64 h.f, .int .u32 (h.a : Int), .int .i64 h.m] ∧ Blk W (b + 1 + 1 + 1) 48 zero9 ∧ W.heap.size = b + 1 + 1 + 1 + 1 := ⟨_, rfl, k0.alloc _, B0.alloc _, B1.alloc _, B2.alloc _, by rw [← hs0]; exact Blk.new _ _ _, by simp [hs0]⟩
  obtain ⟨X, hX, kX, D0, D1, D2, D3, D4⟩ : ∃ X, W.alloc (.cells #[.int .u32 (r.p.a : Int), .int .i64 r.p.l, .int .i64 2, .int .i64 M, .int .i64 0, .int .i64 h.f, .int .u32 (h.a : Int), .int .i64 (now + c.t2), .bool true] 48) = X ∧ Kp w X ∧ Blk X b 24 (cfC c A n m) ∧ Blk X (b + 1) 48 (roC r) ∧ Blk X (b + 1 + 1) 31 #[.int .i64 h.f, .int .u32 (h.a : Int), .int .i64 h.m] ∧ Blk X (b + 1 + 1 + 1) 48 zero9 ∧ Blk X (b + 1 + 1 + 1 + 1) 48 #[.int .u32 (r.p.a : Int), .int .i64 r.p.l, .int .i64 2, .int .i64 M, .int .i64 0, .int .i64 h.f, .int .u32 (h.a : Int), .int .i64 (now + c.t2), .bool true] := ⟨_, rfl, kW.alloc _, C0.alloc _, C1.alloc _, C2.alloc _, C3.alloc _, by rw [← hs]; exact Blk.new _ _ _⟩
  unfold cfC roC at hW0
  unfold zero9 at hW
  have wc2 : W.cell? ⟨b, 2, none⟩ = some (.int .i64 c.t2) := C0.cell 2
  have wc3 : W.cell? ⟨b, 3, none⟩ = some (.int .i64 c.t3) := C0.cell 3
  have wp0 : W.cell? ⟨b + 1, 0, none⟩ = some (.int .u32 (r.p.a : Int)) := C1.cell 0
  have wp1 : W.cell? ⟨b + 1, 1, none⟩ = some (.int .i64 r.p.l) := C1.cell 1
  have wh0 : W.cell? ⟨b + 1 + 1, 0, none⟩ = some (.int .i64 h.f) := C2.cell 0
  have wh1 : W.cell? ⟨b + 1 + 1, 1, none⟩ = some (.int .u32 (h.a : Int)) := C2.cell 1
  have wh2 : W.cell? ⟨b + 1 + 1, 2, none⟩ = some (.int .i64 h.m) := C2.cell 2
  have xc0 : X.cell? ⟨b, 0, none⟩ = some (.int .i64 c.t0) := D0.cell 0
  have xc1 : X.cell? ⟨b, 1, none⟩ = some (.int .i64 c.t1) := D0.cell 1
  have xc2 : X.cell? ⟨b, 2, none⟩ = some (.int .i64 c.t2) := D0.cell 2
  have xc3 : X.cell? ⟨b, 3, none⟩ = some (.int .i64 c.t3) := D0.cell 3
  have xc4 : X.cell? ⟨b, 4, none⟩ = some (.int .i64 c.t4) := D0.cell 4
  have xc5 : X.cell? ⟨b, 5, none⟩ = some (.int .i64 c.t5) := D0.cell 5
  have xc6 : X.cell? ⟨b, 6, none⟩ = some (.int .i64 c.t6) := D0.cell 6
  have xc7 : X.cell? ⟨b, 7, none⟩ = some (.int .i64 c.cap) := D0.cell 7
  have xc8 : X.cell? ⟨b, 8, none⟩ = some (.slice A n m) := D0.cell 8
  have xp0 : X.cell? ⟨b + 1, 0, none⟩ = some (.int .u32 (r.p.a : Int)) := D1.cell 0
  have xp1 : X.cell? ⟨b + 1, 1, none⟩ = some (.int .i64 r.p.l) := D1.cell 1
  have xp2 : X.cell? ⟨b + 1, 2, none⟩ = some (.int .i64 r.s) := D1.cell 2
  have xp3 : X.cell? ⟨b + 1, 3, none⟩ = some (.int .i64 r.m) := D1.cell 3
  have xp4 : X.cell? ⟨b + 1, 4, none⟩ = some (.int .i64 r.l) := D1.cell 4
  have xp5 : X.cell? ⟨b + 1, 5, none⟩ = some (.int .i64 r.f) := D1.cell 5
  have xp6 : X.cell? ⟨b + 1, 6, none⟩ = some (.int .u32 (r.x : Int)) := D1.cell 6
  have xp7 : X.cell? ⟨b + 1, 7, none⟩ = some (.int .i64 r.d) := D1.cell 7
  have xp8 : X.cell? ⟨b + 1, 8, none⟩ = some (.bool r.c) := D1.cell 8
  have xh0 : X.cell? ⟨b + 1 + 1, 0, none⟩ = some (.int .i64 h.f) := D2.cell 0
  have xh1 : X.cell? ⟨b + 1 + 1, 1, none⟩ = some (.int .u32 (h.a : Int)) := D2.cell 1
  have xn0 : X.cell? ⟨b + 1 + 1 + 1 + 1, 0, none⟩ = some (.int .u32 (r.p.a : Int)) := D4.cell 0
  have xn1 : X.cell? ⟨b + 1 + 1 + 1 + 1, 1, none⟩ = some (.int .i64 r.p.l) := D4.cell 1
  have xn2 : X.cell? ⟨b + 1 + 1 + 1 + 1, 2, none⟩ = some (.int .i64 2) := D4.cell 2
  have xn3 : X.cell? ⟨b + 1 + 1 + 1 + 1, 3, none⟩ = some (.int .i64 M) := D4.cell 3
  have xn4 : X.cell? ⟨b + 1 + 1 + 1 + 1, 4, none⟩ = some (.int .i64 0) := D4.cell 4
  have xn5 : X.cell? ⟨b + 1 + 1 + 1 + 1, 5, none⟩ = some (.int .i64 h.f) := D4.cell 5
  have xn6 : X.cell? ⟨b + 1 + 1 + 1 + 1, 6, none⟩ = some (.int .u32 (h.a : Int)) := D4.cell 6
  have xn7 : X.cell? ⟨b + 1 + 1 + 1 + 1, 7, none⟩ = some (.int .i64 (now + c.t2)) := D4.cell 7
  have xn8 : X.cell? ⟨b + 1 + 1 + 1 + 1, 8, none⟩ = some (.bool true) := D4.cell 8
  have q0 : X.cell? ⟨b + 1 + 1 + 1, 0, none⟩ = some (.int .u32 0) := D3.cell 0
  have q1 : X.cell? ⟨b + 1 + 1 + 1, 1, none⟩ = some (.int .i64 0) := D3.cell 1
  have q2 : X.cell? ⟨b + 1 + 1 + 1, 2, none⟩ = some (.int .i64 0) := D3.cell 2
  have q3 : X.cell? ⟨b + 1 + 1 + 1, 3, none⟩ = some (.int .i64 0) := D3.cell 3
  have q4 : X.cell? ⟨b + 1 + 1 + 1, 4, none⟩ = some (.int .i64 0) := D3.cell 4
  have q5 : X.cell? ⟨b + 1 + 1 + 1, 5, none⟩ = some (.int .i64 0) := D3.cell 5
  have q6 : X.cell? ⟨b + 1 + 1 + 1, 6, none⟩ = some (.int .u32 0) := D3.cell 6
  have q7 : X.cell? ⟨b + 1 + 1 + 1, 7, none⟩ = some (.int .i64 0) := D3.cell 7
  have q8 : X.cell? ⟨b + 1 + 1 + 1, 8, none⟩ = some (.bool false) := D3.cell 8
  have z0 := D3.frozen 0
  have z1 := D3.frozen 1
  have z2 := D3.frozen 2
  have z3 := D3.frozen 3
  have z4 := D3.frozen 4
  have z5 := D3.frozen 5
  have z6 := D3.frozen 6
  have z7 := D3.frozen 7
  have z8 := D3.frozen 8
  obtain ⟨R, hR, BR, kR⟩ : ∃ R, (((((((((X.setCell ⟨b + 1 + 1 + 1, 0, none⟩ (.int .u32 (r.p.a : Int))).setCell ⟨b + 1 + 1 + 1, 1, none⟩ (.int .i64 r.p.l)).setCell ⟨b + 1 + 1 + 1, 2, none⟩ (.int .i64 r.s)).setCell ⟨b + 1 + 1 + 1, 3, none⟩ (.int .i64 r.m)).setCell ⟨b + 1 + 1 + 1, 4, none⟩ (.int .i64 r.l)).setCell ⟨b + 1 + 1 + 1, 5, none⟩ (.int .i64 r.f)).setCell ⟨b + 1 + 1 + 1, 6, none⟩ (.int .u32 (r.x : Int))).setCell ⟨b + 1 + 1 + 1, 7, none⟩ (.int .i64 r.d)).setCell ⟨b + 1 + 1 + 1, 8, none⟩ (.bool r.c)) = R ∧ Blk R (b + 1 + 1 + 1) 48 (roC r) ∧ Kp w R := ⟨_, rfl, Blk.putRo D3 r, Kp.putRo kX (by omega) r⟩
  obtain ⟨u0, u1, u2, u3, u4, u5, u6, u7, u8⟩ := ro_cells BR
  go_enter Tryz.func108, Tryz.ntmps108
  go_wp2_with fail
  exact ⟨rfl, roV r, by simp [results, Tryz.results108, go_sem, lostR, u0, u1, u2, u3, u4, u5, u6, u7, u8], rfl, kR⟩
set_option maxRecDepth 100000 in
set_option maxHeartbeats 2000000 in
theorem hr0ltA (c : Cf) (A : Option Addr) (n m : Nat) (r : Rt) (h : Hd) (now : Int) (w : World) (hn0 : 0 ≤ now) (hn1 : now ≤ 4611686018427387904) (ht0 : 0 ≤ c.t2) (ht1 : c.t2 ≤ 1000000) (hu0 : 0 ≤ c.t3) (hu1 : c.t3 ≤ 1000000) (hm0 : 1 ≤ h.m) (hm1 : h.m ≤ 16) (M : Int) (hM : h.m + 1 = M) (hM2 : M ≤ 16) (e1 : (r.s == 1) = false) (e2 : (r.s == 2) = false) (e3 : (r.s == 3) = false) (e0 : (r.s == 0) = true) (el : decide (M < 16) = true) :
    Calls Tryz.prog 108 #[cfV c A n m, roV r, .agg #[.int .i64 h.f, .int .u32 (h.a : Int), .int .i64 h.m], .int .i64 now] w (RRetP (⟨r.p, 2, M, 0, h.f, h.a, now + c.t2, true⟩ : Rt) w) := by
  obtain ⟨b, hb⟩ : ∃ b, w.heap.size = b := ⟨_, rfl⟩
  obtain ⟨W0, hW0, k0, B0, B1, B2⟩ : ∃ W, ((w.alloc (.cells (cfC c A n m) 24)).alloc (.cells (roC r) 48)).alloc (.cells #[.int .i64 h.f, .int .u32 (h.a : Int), .int .i64 h.m] 31) = W ∧ Kp w W ∧ Blk W b 24 (cfC c A n m) ∧ Blk W (b + 1) 48 (roC r) ∧ Blk W (b + 1 + 1) 31 #[.int .i64 h.f, .int .u32 (h.a : Int), .int .i64 h.m] := ⟨_, rfl, (((Kp.refl _).alloc _).alloc _).alloc _, by rw [← hb]; exact ((Blk.new w _ _).alloc _).alloc _, by rw [← hb]; exact (Blk.new1 w _ _ _).alloc _, by rw [← hb]; exact Blk.new2 w _ _ _ _⟩
  have hs0 : W0.heap.size = b + 1 + 1 + 1 := by rw [← hW0, ← hb]; simp
  obtain ⟨W, hW, kW, C0, C1, C2, C3, hs⟩ : ∃ W, W0.alloc (.cells zero9 48) = W ∧ Kp w W ∧ Blk W b 24 (cfC c A n m) ∧ Blk W (b + 1) 48 (roC r) ∧ Blk W (b + 1 + 1) 31 #[.int .i64 h.f, .int .u32 (h.a : Int), .int .i64 h.m] ∧ Blk W (b + 1 + 1 + 1) 48 zero9 ∧ W.heap.size = b + 1 + 1 + 1 + 1 := ⟨_, rfl, k0.alloc _, B0.alloc _, B1.alloc _, B2.alloc _, by rw [← hs0]; exact Blk.new _ _ _, by simp [hs0]⟩
  obtain ⟨X, hX, kX, D0, D1, D2, D3, D4⟩ : ∃ X, W.alloc (.cells #[.int .u32 (r.p.a : Int), .int .i64 r.p.l, .int .i64 2, .int .i64 M, .int .i64 0, .int .i64 h.f, .int .u32 (h.a : Int), .int .i64 (now + c.t2), .bool true] 48) = X ∧ Kp w X ∧ Blk X b 24 (cfC c A n m) ∧ Blk X (b + 1) 48 (roC r) ∧ Blk X (b + 1 + 1) 31 #[.int .i64 h.f, .int .u32 (h.a : Int), .int .i64 h.m] ∧ Blk X (b + 1 + 1 + 1) 48 zero9 ∧ Blk X (b + 1 + 1 + 1 + 1) 48 #[.int .u32 (r.p.a : Int), .int .i64 r.p.l, .int .i64 2, .int .i64 M, .int .i64 0, .int .i64 h.f, .int .u32 (h.a : Int), .int .i64 (now + c.t2), .bool true] := ⟨_, rfl, kW.alloc _, C0.alloc _, C1.alloc _, C2.alloc _, C3.alloc _, by rw [← hs]; exact Blk.new _ _ _⟩
  unfold cfC roC at hW0
  unfold zero9 at hW
  have wc2 : W.cell? ⟨b, 2, none⟩ = some (.int .i64 c.t2) := C0.cell 2
  have wc3 : W.cell? ⟨b, 3, none⟩ = some (.int .i64 c.t3) := C0.cell 3
  have wp0 : W.cell? ⟨b + 1, 0, none⟩ = some (.int .u32 (r.p.a : Int)) := C1.cell 0
  have wp1 : W.cell? ⟨b + 1, 1, none⟩ = some (.int .i64 r.p.l) := C1.cell 1
  have wh0 : W.cell? ⟨b + 1 + 1, 0, none⟩ = some (.int .i64 h.f) := C2.cell 0
  have wh1 : W.cell? ⟨b + 1 + 1, 1, none⟩ = some (.int .u32 (h.a : Int)) := C2.cell 1
  have wh2 : W.cell? ⟨b + 1 + 1, 2, none⟩ = some (.int .i64 h.m) := C2.cell 2
  have xc0 : X.cell? ⟨b, 0, none⟩ = some (.int .i64 c.t0) := D0.cell 0
  have xc1 : X.cell? ⟨b, 1, none⟩ = some (.int .i64 c.t1) := D0.cell 1
  have xc2 : X.cell? ⟨b, 2, none⟩ = some (.int .i64 c.t2) := D0.cell 2
  have xc3 : X.cell? ⟨b, 3, none⟩ = some (.int .i64 c.t3) := D0.cell 3
  have xc4 : X.cell? ⟨b, 4, none⟩ = some (.int .i64 c.t4) := D0.cell 4
  have xc5 : X.cell? ⟨b, 5, none⟩ = some (.int .i64 c.t5) := D0.cell 5
  have xc6 : X.cell? ⟨b, 6, none⟩ = some (.int .i64 c.t6) := D0.cell 6
  have xc7 : X.cell? ⟨b, 7, none⟩ = some (.int .i64 c.cap) := D0.cell 7
  have xc8 : X.cell? ⟨b, 8, none⟩ = some (.slice A n m) := D0.cell 8
  have xp0 : X.cell? ⟨b + 1, 0, none⟩ = some (.int .u32 (r.p.a : Int)) := D1.cell 0
  have xp1 : X.cell? ⟨b + 1, 1, none⟩ = some (.int .i64 r.p.l) := D1.cell 1
  have xp2 : X.cell? ⟨b + 1, 2, none⟩ = some (.int .i64 r.s) := D1.cell 2
  have xp3 : X.cell? ⟨b + 1, 3, none⟩ = some (.int .i64 r.m) := D1.cell 3
  have xp4 : X.cell? ⟨b + 1, 4, none⟩ = some (.int .i64 r.l) := D1.cell 4
  have xp5 : X.cell? ⟨b + 1, 5, none⟩ = some (.int .i64 r.f) := D1.cell 5
  have xp6 : X.cell? ⟨b + 1, 6, none⟩ = some (.int .u32 (r.x : Int)) := D1.cell 6
  have xp7 : X.cell? ⟨b + 1, 7, none⟩ = some (.int .i64 r.d) := D1.cell 7
  have xp8 : X.cell? ⟨b + 1, 8, none⟩ = some (.bool r.c) := D1.cell 8
  have xh0 : X.cell? ⟨b + 1 + 1, 0, none⟩ = some (.int .i64 h.f) := D2.cell 0
  have xh1 : X.cell? ⟨b + 1 + 1, 1, none⟩ = some (.int .u32 (h.a : Int)) := D2.cell 1
  have xn0 : X.cell? ⟨b + 1 + 1 + 1 + 1, 0, none⟩ = some (.int .u32 (r.p.a : Int)) := D4.cell 0
  have xn1 : X.cell? ⟨b + 1 + 1 + 1 + 1, 1, none⟩ = some (.int .i64 r.p.l) := D4.cell 1
  have xn2 : X.cell? ⟨b + 1 + 1 + 1 + 1, 2, none⟩ = some (.int .i64 2) := D4.cell 2
  have xn3 : X.cell? ⟨b + 1 + 1 + 1 + 1, 3, none⟩ = some (.int .i64 M) := D4.cell 3
  have xn4 : X.cell? ⟨b + 1 + 1 + 1 + 1, 4, none⟩ = some (.int .i64 0) := D4.cell 4
  have xn5 : X.cell? ⟨b + 1 + 1 + 1 + 1, 5, none⟩ = some (.int .i64 h.f) := D4.cell 5
  have xn6 : X.cell? ⟨b + 1 + 1 + 1 + 1, 6, none⟩ = some (.int .u32 (h.a : Int)) := D4.cell 6
  have xn7 : X.cell? ⟨b + 1 + 1 + 1 + 1, 7, none⟩ = some (.int .i64 (now + c.t2)) := D4.cell 7
  have xn8 : X.cell? ⟨b + 1 + 1 + 1 + 1, 8, none⟩ = some (.bool true) := D4.cell 8
  have q0 : X.cell? ⟨b + 1 + 1 + 1, 0, none⟩ = some (.int .u32 0) := D3.cell 0
  have q1 : X.cell? ⟨b + 1 + 1 + 1, 1, none⟩ = some (.int .i64 0) := D3.cell 1
  have q2 : X.cell? ⟨b + 1 + 1 + 1, 2, none⟩ = some (.int .i64 0) := D3.cell 2
  have q3 : X.cell? ⟨b + 1 + 1 + 1, 3, none⟩ = some (.int .i64 0) := D3.cell 3
  have q4 : X.cell? ⟨b + 1 + 1 + 1, 4, none⟩ = some (.int .i64 0) := D3.cell 4
  have q5 : X.cell? ⟨b + 1 + 1 + 1, 5, none⟩ = some (.int .i64 0) := D3.cell 5
  have q6 : X.cell? ⟨b + 1 + 1 + 1, 6, none⟩ = some (.int .u32 0) := D3.cell 6
  have q7 : X.cell? ⟨b + 1 + 1 + 1, 7, none⟩ = some (.int .i64 0) := D3.cell 7
  have q8 : X.cell? ⟨b + 1 + 1 + 1, 8, none⟩ = some (.bool false) := D3.cell 8
  have z0 := D3.frozen 0
  have z1 := D3.frozen 1
  have z2 := D3.frozen 2
  have z3 := D3.frozen 3
  have z4 := D3.frozen 4
  have z5 := D3.frozen 5
  have z6 := D3.frozen 6
  have z7 := D3.frozen 7
  have z8 := D3.frozen 8
  obtain ⟨R, hR, BR, kR⟩ : ∃ R, (((((((((X.setCell ⟨b + 1 + 1 + 1, 0, none⟩ (.int .u32 (r.p.a : Int))).setCell ⟨b + 1 + 1 + 1, 1, none⟩ (.int .i64 r.p.l)).setCell ⟨b + 1 + 1 + 1, 2, none⟩ (.int .i64 2)).setCell ⟨b + 1 + 1 + 1, 3, none⟩ (.int .i64 M)).setCell ⟨b + 1 + 1 + 1, 4, none⟩ (.int .i64 0)).setCell ⟨b + 1 + 1 + 1, 5, none⟩ (.int .i64 h.f)).setCell ⟨b + 1 + 1 + 1, 6, none⟩ (.int .u32 (h.a : Int))).setCell ⟨b + 1 + 1 + 1, 7, none⟩ (.int .i64 (now + c.t2))).setCell ⟨b + 1 + 1 + 1, 8, none⟩ (.bool true)) = R ∧ Blk R (b + 1 + 1 + 1) 48 (roC (⟨r.p, 2, M, 0, h.f, h.a, now + c.t2, true⟩ : Rt)) ∧ Kp w R := ⟨_, rfl, Blk.putRo D3 (⟨r.p, 2, M, 0, h.f, h.a, now + c.t2, true⟩ : Rt), Kp.putRo kX (by omega) (⟨r.p, 2, M, 0, h.f, h.a, now + c.t2, true⟩ : Rt)⟩
  obtain ⟨u0, u1, u2, u3, u4, u5, u6, u7, u8⟩ := ro_cells BR
  go_enter Tryz.func108, Tryz.ntmps108
  go_wp2_with fail
  exact ⟨rfl, roV (⟨r.p, 2, M, 0, h.f, h.a, now + c.t2, true⟩ : Rt), by simp [results, Tryz.results108, go_sem, lostR, u0, u1, u2, u3, u4, u5, u6, u7, u8], rfl, kR⟩
set_option maxRecDepth 100000 in
set_option maxHeartbeats 2000000 in
theorem hr0geA (c : Cf) (A : Option Addr) (n m : Nat) (r : Rt) (h : Hd) (now : Int) (w : World) (hn0 : 0 ≤ now) (hn1 : now ≤ 4611686018427387904) (ht0 : 0 ≤ c.t2) (ht1 : c.t2 ≤ 1000000) (hu0 : 0 ≤ c.t3) (hu1 : c.t3 ≤ 1000000) (hm0 : 1 ≤ h.m) (hm1 : h.m ≤ 16) (M : Int) (hM : h.m + 1 = M) (hM2 : M ≤ 16) (e1 : (r.s == 1) = false) (e2 : (r.s == 2) = false) (e3 : (r.s == 3) = false) (e0 : (r.s == 0) = true) (el : decide (M < 16) = false) :
    Calls Tryz.prog 108 #[cfV c A n m, roV r, .agg #[.int .i64 h.f, .int .u32 (h.a : Int), .int .i64 h.m], .int .i64 now] w (RRetP r w) := by
  obtain ⟨b, hb⟩ : ∃ b, w.heap.size = b := ⟨_, rfl⟩
  obtain ⟨W0, hW0, k0, B0, B1, B2⟩ : ∃ W, ((w.alloc (.cells (cfC c A n m) 24)).alloc (.cells (roC r) 48)).alloc (.cells #[.int .i64 h.f, .int .u32 (h.a : Int), .int .i64 h.m] 31) = W ∧ Kp w W ∧ Blk W b 24 (cfC c A n m) ∧ Blk W (b + 1) 48 (roC r) ∧ Blk W (b + 1 + 1) 31 #[.int .i64 h.f, .int .u32 (h.a : Int), .int .i64 h.m] := ⟨_, rfl, (((Kp.refl _).alloc _).alloc _).alloc _, by rw [← hb]; exact ((Blk.new w _ _).alloc _).alloc _, by rw [← hb]; exact (Blk.new1 w _ _ _).alloc _, by rw [← hb]; exact Blk.new2 w _ _ _ _⟩
  have hs0 : W0.heap.size = b + 1 + 1 + 1 := by rw [← hW0, ← hb]; simp
  obtain ⟨W, hW, kW, C0, C1, C2, C3, hs⟩ : ∃ W, W0.alloc (.cells zero9 48) = W ∧ Kp w W ∧ Blk W b 24 (cfC c A n m) ∧ Blk W (b + 1) 48 (roC r) ∧ Blk W (b + 1 + 1) 31 #[.int .i64 h.f, .int .u32 (h.a : Int), .int .i64 h.m] ∧ Blk W (b + 1 + 1 + 1) 48 zero9 ∧ W.heap.size = b + 1 + 1 + 1 + 1 := ⟨_, rfl, k0.alloc _, B0.alloc _, B1.alloc _, B2.alloc _, by rw [← hs0]; exact Blk.new _ _ _, by simp [hs0]⟩
  obtain ⟨X, hX, kX, D0, D1, D2, D3, D4⟩ : ∃ X, W.alloc (.cells #[.int .u32 (r.p.a : Int), .int .i64 r.p.l, .int .i64 2, .int .i64 M, .int .i64 0, .int .i64 h.f, .int .u32 (h.a : Int), .int .i64 (now + c.t2), .bool true] 48) = X ∧ Kp w X ∧ Blk X b 24 (cfC c A n m) ∧ Blk X (b + 1) 48 (roC r) ∧ Blk X (b + 1 + 1) 31 #[.int .i64 h.f, .int .u32 (h.a : Int), .int .i64 h.m] ∧ Blk X (b + 1 + 1 + 1) 48 zero9 ∧ Blk X (b + 1 + 1 + 1 + 1) 48 #[.int .u32 (r.p.a : Int), .int .i64 r.p.l, .int .i64 2, .int .i64 M, .int .i64 0, .int .i64 h.f, .int .u32 (h.a : Int), .int .i64 (now + c.t2), .bool true] := ⟨_, rfl, kW.alloc _, C0.alloc _, C1.alloc _, C2.alloc _, C3.alloc _, by rw [← hs]; exact Blk.new _ _ _⟩
  unfold cfC roC at hW0
  unfold zero9 at hW
  have wc2 : W.cell? ⟨b, 2, none⟩ = some (.int .i64 c.t2) := C0.cell 2
  have wc3 : W.cell? ⟨b, 3, none⟩ = some (.int .i64 c.t3) := C0.cell 3
  have wp0 : W.cell? ⟨b + 1, 0, none⟩ = some (.int .u32 (r.p.a : Int)) := C1.cell 0
  have wp1 : W.cell? ⟨b + 1, 1, none⟩ = some (.int .i64 r.p.l) := C1.cell 1
  have wh0 : W.cell? ⟨b + 1 + 1, 0, none⟩ = some (.int .i64 h.f) := C2.cell 0
  have wh1 : W.cell? ⟨b + 1 + 1, 1, none⟩ = some (.int .u32 (h.a : Int)) := C2.cell 1
  have wh2 : W.cell? ⟨b + 1 + 1, 2, none⟩ = some (.int .i64 h.m) := C2.cell 2
  have xc0 : X.cell? ⟨b, 0, none⟩ = some (.int .i64 c.t0) := D0.cell 0
  have xc1 : X.cell? ⟨b, 1, none⟩ = some (.int .i64 c.t1) := D0.cell 1
  have xc2 : X.cell? ⟨b, 2, none⟩ = some (.int .i64 c.t2) := D0.cell 2
  have xc3 : X.cell? ⟨b, 3, none⟩ = some (.int .i64 c.t3) := D0.cell 3
  have xc4 : X.cell? ⟨b, 4, none⟩ = some (.int .i64 c.t4) := D0.cell 4
  have xc5 : X.cell? ⟨b, 5, none⟩ = some (.int .i64 c.t5) := D0.cell 5
  have xc6 : X.cell? ⟨b, 6, none⟩ = some (.int .i64 c.t6) := D0.cell 6
  have xc7 : X.cell? ⟨b, 7, none⟩ = some (.int .i64 c.cap) := D0.cell 7
  have xc8 : X.cell? ⟨b, 8, none⟩ = some (.slice A n m) := D0.cell 8
  have xp0 : X.cell? ⟨b + 1, 0, none⟩ = some (.int .u32 (r.p.a : Int)) := D1.cell 0
  have xp1 : X.cell? ⟨b + 1, 1, none⟩ = some (.int .i64 r.p.l) := D1.cell 1
  have xp2 : X.cell? ⟨b + 1, 2, none⟩ = some (.int .i64 r.s) := D1.cell 2
  have xp3 : X.cell? ⟨b + 1, 3, none⟩ = some (.int .i64 r.m) := D1.cell 3
  have xp4 : X.cell? ⟨b + 1, 4, none⟩ = some (.int .i64 r.l) := D1.cell 4
  have xp5 : X.cell? ⟨b + 1, 5, none⟩ = some (.int .i64 r.f) := D1.cell 5
  have xp6 : X.cell? ⟨b + 1, 6, none⟩ = some (.int .u32 (r.x : Int)) := D1.cell 6
  have xp7 : X.cell? ⟨b + 1, 7, none⟩ = some (.int .i64 r.d) := D1.cell 7
  have xp8 : X.cell? ⟨b + 1, 8, none⟩ = some (.bool r.c) := D1.cell 8
  have xh0 : X.cell? ⟨b + 1 + 1, 0, none⟩ = some (.int .i64 h.f) := D2.cell 0
  have xh1 : X.cell? ⟨b + 1 + 1, 1, none⟩ = some (.int .u32 (h.a : Int)) := D2.cell 1
  have xn0 : X.cell? ⟨b + 1 + 1 + 1 + 1, 0, none⟩ = some (.int .u32 (r.p.a : Int)) := D4.cell 0
  have xn1 : X.cell? ⟨b + 1 + 1 + 1 + 1, 1, none⟩ = some (.int .i64 r.p.l) := D4.cell 1
  have xn2 : X.cell? ⟨b + 1 + 1 + 1 + 1, 2, none⟩ = some (.int .i64 2) := D4.cell 2
  have xn3 : X.cell? ⟨b + 1 + 1 + 1 + 1, 3, none⟩ = some (.int .i64 M) := D4.cell 3
  have xn4 : X.cell? ⟨b + 1 + 1 + 1 + 1, 4, none⟩ = some (.int .i64 0) := D4.cell 4
  have xn5 : X.cell? ⟨b + 1 + 1 + 1 + 1, 5, none⟩ = some (.int .i64 h.f) := D4.cell 5
  have xn6 : X.cell? ⟨b + 1 + 1 + 1 + 1, 6, none⟩ = some (.int .u32 (h.a : Int)) := D4.cell 6
  have xn7 : X.cell? ⟨b + 1 + 1 + 1 + 1, 7, none⟩ = some (.int .i64 (now + c.t2)) := D4.cell 7
  have xn8 : X.cell? ⟨b + 1 + 1 + 1 + 1, 8, none⟩ = some (.bool true) := D4.cell 8
  have q0 : X.cell? ⟨b + 1 + 1 + 1, 0, none⟩ = some (.int .u32 0) := D3.cell 0
  have q1 : X.cell? ⟨b + 1 + 1 + 1, 1, none⟩ = some (.int .i64 0) := D3.cell 1
  have q2 : X.cell? ⟨b + 1 + 1 + 1, 2, none⟩ = some (.int .i64 0) := D3.cell 2
  have q3 : X.cell? ⟨b + 1 + 1 + 1, 3, none⟩ = some (.int .i64 0) := D3.cell 3
  have q4 : X.cell? ⟨b + 1 + 1 + 1, 4, none⟩ = some (.int .i64 0) := D3.cell 4
  have q5 : X.cell? ⟨b + 1 + 1 + 1, 5, none⟩ = some (.int .i64 0) := D3.cell 5
  have q6 : X.cell? ⟨b + 1 + 1 + 1, 6, none⟩ = some (.int .u32 0) := D3.cell 6
  have q7 : X.cell? ⟨b + 1 + 1 + 1, 7, none⟩ = some (.int .i64 0) := D3.cell 7
  have q8 : X.cell? ⟨b + 1 + 1 + 1, 8, none⟩ = some (.bool false) := D3.cell 8
  have z0 := D3.frozen 0
  have z1 := D3.frozen 1
  have z2 := D3.frozen 2
  have z3 := D3.frozen 3
  have z4 := D3.frozen 4
  have z5 := D3.frozen 5
  have z6 := D3.frozen 6
  have z7 := D3.frozen 7
  have z8 := D3.frozen 8
  obtain ⟨R, hR, BR, kR⟩ : ∃ R, (((((((((X.setCell ⟨b + 1 + 1 + 1, 0, none⟩ (.int .u32 (r.p.a : Int))).setCell ⟨b + 1 + 1 + 1, 1, none⟩ (.int .i64 r.p.l)).setCell ⟨b + 1 + 1 + 1, 2, none⟩ (.int .i64 r.s)).setCell ⟨b + 1 + 1 + 1, 3, none⟩ (.int .i64 r.m)).setCell ⟨b + 1 + 1 + 1, 4, none⟩ (.int .i64 r.l)).setCell ⟨b + 1 + 1 + 1, 5, none⟩ (.int .i64 r.f)).setCell ⟨b + 1 + 1 + 1, 6, none⟩ (.int .u32 (r.x : Int))).setCell ⟨b + 1 + 1 + 1, 7, none⟩ (.int .i64 r.d)).setCell ⟨b + 1 + 1 + 1, 8, none⟩ (.bool r.c)) = R ∧ Blk R (b + 1 + 1 + 1) 48 (roC r) ∧ Kp w R := ⟨_, rfl, Blk.putRo D3 r, Kp.putRo kX (by omega) r⟩
  obtain ⟨u0, u1, u2, u3, u4, u5, u6, u7, u8⟩ := ro_cells BR
  go_enter Tryz.func108, Tryz.ntmps108
  go_wp2_with fail
  exact ⟨rfl, roV r, by simp [results, Tryz.results108, go_sem, lostR, u0, u1, u2, u3, u4, u5, u6, u7, u8], rfl, kR⟩
set_option maxRecDepth 100000 in
set_option maxHeartbeats 2000000 in
theorem hr4ltA (c : Cf) (A : Option Addr) (n m : Nat) (r : Rt) (h : Hd) (now : Int) (w : World) (hn0 : 0 ≤ now) (hn1 : now ≤ 4611686018427387904) (ht0 : 0 ≤ c.t2) (ht1 : c.t2 ≤ 1000000) (hu0 : 0 ≤ c.t3) (hu1 : c.t3 ≤ 1000000) (hm0 : 1 ≤ h.m) (hm1 : h.m ≤ 16) (M : Int) (hM : h.m + 1 = M) (hM2 : M ≤ 16) (e1 : (r.s == 1) = false) (e2 : (r.s == 2) = false) (e3 : (r.s == 3) = false) (e0 : (r.s == 0) = false) (e4 : (r.s == 4) = true) (el : decide (M < 16) = true) :
    Calls Tryz.prog 108 #[cfV c A n m, roV r, .agg #[.int .i64 h.f, .int .u32 (h.a : Int), .int .i64 h.m], .int .i64 now] w (RRetP (⟨r.p, 2, M, 0, h.f, h.a, now + c.t2, true⟩ : Rt) w) := by
  obtain ⟨b, hb⟩ : ∃ b, w.heap.size = b := ⟨_, rfl⟩
  obtain ⟨W0, hW0, k0, B0, B1, B2⟩ : ∃ W, ((w.alloc (.cells (cfC c A n m) 24)).alloc (.cells (roC r) 48)).alloc (.cells #[.int .i64 h.f, .int .u32 (h.a : Int), .int .i64 h.m] 31) = W ∧ Kp w W ∧ Blk W b 24 (cfC c A n m) ∧ Blk W (b + 1) 48 (roC r) ∧ Blk W (b + 1 + 1) 31 #[.int .i64 h.f, .int .u32 (h.a : Int), .int .i64 h.m] := ⟨_, rfl, (((Kp.refl _).alloc _).alloc _).alloc _, by rw [← hb]; exact ((Blk.new w _ _).alloc _).alloc _, by rw [← hb]; exact (Blk.new1 w _ _ _).alloc _, by rw [← hb]; exact Blk.new2 w _ _ _ _⟩
  have hs0 : W0.heap.size = b + 1 + 1 + 1 := by rw [← hW0, ← hb]; simp
  obtain ⟨W, hW, kW, C0, C1, C2, C3, hs⟩ : ∃ W, W0.alloc (.cells zero9 48) = W ∧ Kp w W ∧ Blk W b 24 (cfC c A n m) ∧ Blk W (b + 1) 48 (roC r) ∧ Blk W (b + 1 + 1) 31 #[.int .i64 h.f, .int .u32 (h.a : Int), .int .i64 h.m] ∧ Blk W (b + 1 + 1 + 1) 48 zero9 ∧ W.heap.size = b + 1 + 1 + 1 + 1 := ⟨_, rfl, k0.alloc _, B0.alloc _, B1.alloc _, B2.alloc _, by rw [← hs0]; exact Blk.new _ _ _, by simp [hs0]⟩
  obtain ⟨X, hX, kX, D0, D1, D2, D3, D4⟩ : ∃ X, W.alloc (.cells #[.int .u32 (r.p.a : Int), .int .i64 r.p.l, .int .i64 2, .int .i64 M, .int .i64 0, .int .i64 h.f, .int .u32 (h.a : Int), .int .i64 (now + c.t2), .bool true] 48) = X ∧ Kp w X ∧ Blk X b 24 (cfC c A n m) ∧ Blk X (b + 1) 48 (roC r) ∧ Blk X (b + 1 + 1) 31 #[.int .i64 h.f, .int .u32 (h.a : Int), .int .i64 h.m] ∧ Blk X (b + 1 + 1 + 1) 48 zero9 ∧ Blk X (b + 1 + 1 + 1 + 1) 48 #[.int .u32 (r.p.a : Int), .int .i64 r.p.l, .int .i64 2, .int .i64 M, .int .i64 0, .int .i64 h.f, .int .u32 (h.a : Int), .int .i64 (now + c.t2), .bool true] := ⟨_, rfl, kW.alloc _, C0.alloc _, C1.alloc _, C2.alloc _, C3.alloc _, by rw [← hs]; exact Blk.new _ _ _⟩
  unfold cfC roC at hW0
  unfold zero9 at hW
  have wc2 : W.cell? ⟨b, 2, none⟩ = some (.int .i64 c.t2) := C0.cell 2
  have wc3 : W.cell? ⟨b, 3, none⟩ = some (.int .i64 c.t3) := C0.cell 3
  have wp0 : W.cell? ⟨b + 1, 0, none⟩ = some (.int .u32 (r.p.a : Int)) := C1.cell 0
  have wp1 : W.cell? ⟨b + 1, 1, none⟩ = some (.int .i64 r.p.l) := C1.cell 1
  have wh0 : W.cell? ⟨b + 1 + 1, 0, none⟩ = some (.int .i64 h.f) := C2.cell 0
  have wh1 : W.cell? ⟨b + 1 + 1, 1, none⟩ = some (.int .u32 (h.a : Int)) := C2.cell 1
  have wh2 : W.cell? ⟨b + 1 + 1, 2, none⟩ = some (.int .i64 h.m) := C2.cell 2
  have xc0 : X.cell? ⟨b, 0, none⟩ = some (.int .i64 c.t0) := D0.cell 0
  have xc1 : X.cell? ⟨b, 1, none⟩ = some (.int .i64 c.t1) := D0.cell 1
  have xc2 : X.cell? ⟨b, 2, none⟩ = some (.int .i64 c.t2) := D0.cell 2
  have xc3 : X.cell? ⟨b, 3, none⟩ = some (.int .i64 c.t3) := D0.cell 3
  have xc4 : X.cell? ⟨b, 4, none⟩ = some (.int .i64 c.t4) := D0.cell 4
  have xc5 : X.cell? ⟨b, 5, none⟩ = some (.int .i64 c.t5) := D0.cell 5
  have xc6 : X.cell? ⟨b, 6, none⟩ = some (.int .i64 c.t6) := D0.cell 6
  have xc7 : X.cell? ⟨b, 7, none⟩ = some (.int .i64 c.cap) := D0.cell 7
  have xc8 : X.cell? ⟨b, 8, none⟩ = some (.slice A n m) := D0.cell 8
  have xp0 : X.cell? ⟨b + 1, 0, none⟩ = some (.int .u32 (r.p.a : Int)) := D1.cell 0
  have xp1 : X.cell? ⟨b + 1, 1, none⟩ = some (.int .i64 r.p.l) := D1.cell 1
  have xp2 : X.cell? ⟨b + 1, 2, none⟩ = some (.int .i64 r.s) := D1.cell 2
  have xp3 : X.cell? ⟨b + 1, 3, none⟩ = some (.int .i64 r.m) := D1.cell 3
  have xp4 : X.cell? ⟨b + 1, 4, none⟩ = some (.int .i64 r.l) := D1.cell 4
  have xp5 : X.cell? ⟨b + 1, 5, none⟩ = some (.int .i64 r.f) := D1.cell 5
  have xp6 : X.cell? ⟨b + 1, 6, none⟩ = some (.int .u32 (r.x : Int)) := D1.cell 6
  have xp7 : X.cell? ⟨b + 1, 7, none⟩ = some (.int .i64 r.d) := D1.cell 7
  have xp8 : X.cell? ⟨b + 1, 8, none⟩ = some (.bool r.c) := D1.cell 8
  have xh0 : X.cell? ⟨b + 1 + 1, 0, none⟩ = some (.int .i64 h.f) := D2.cell 0
  have xh1 : X.cell? ⟨b + 1 + 1, 1, none⟩ = some (.int .u32 (h.a : Int)) := D2.cell 1
  have xn0 : X.cell? ⟨b + 1 + 1 + 1 + 1, 0, none⟩ = some (.int .u32 (r.p.a : Int)) := D4.cell 0
  have xn1 : X.cell? ⟨b + 1 + 1 + 1 + 1, 1, none⟩ = some (.int .i64 r.p.l) := D4.cell 1
  have xn2 : X.cell? ⟨b + 1 + 1 + 1 + 1, 2, none⟩ = some (.int .i64 2) := D4.cell 2
  have xn3 : X.cell? ⟨b + 1 + 1 + 1 + 1, 3, none⟩ = some (.int .i64 M) := D4.cell 3
  have xn4 : X.cell? ⟨b + 1 + 1 + 1 + 1, 4, none⟩ = some (.int .i64 0) := D4.cell 4
  have xn5 : X.cell? ⟨b + 1 + 1 + 1 + 1, 5, none⟩ = some (.int .i64 h.f) := D4.cell 5
  have xn6 : X.cell? ⟨b + 1 + 1 + 1 + 1, 6, none⟩ = some (.int .u32 (h.a : Int)) := D4.cell 6
  have xn7 : X.cell? ⟨b + 1 + 1 + 1 + 1, 7, none⟩ = some (.int .i64 (now + c.t2)) := D4.cell 7
  have xn8 : X.cell? ⟨b + 1 + 1 + 1 + 1, 8, none⟩ = some (.bool true) := D4.cell 8
  have q0 : X.cell? ⟨b + 1 + 1 + 1, 0, none⟩ = some (.int .u32 0) := D3.cell 0
  have q1 : X.cell? ⟨b + 1 + 1 + 1, 1, none⟩ = some (.int .i64 0) := D3.cell 1
  have q2 : X.cell? ⟨b + 1 + 1 + 1, 2, none⟩ = some (.int .i64 0) := D3.cell 2
  have q3 : X.cell? ⟨b + 1 + 1 + 1, 3, none⟩ = some (.int .i64 0) := D3.cell 3
  have q4 : X.cell? ⟨b + 1 + 1 + 1, 4, none⟩ = some (.int .i64 0) := D3.cell 4
  have q5 : X.cell? ⟨b + 1 + 1 + 1, 5, none⟩ = some (.int .i64 0) := D3.cell 5
  have q6 : X.cell? ⟨b + 1 + 1 + 1, 6, none⟩ = some (.int .u32 0) := D3.cell 6
  have q7 : X.cell? ⟨b + 1 + 1 + 1, 7, none⟩ = some (.int .i64 0) := D3.cell 7
  have q8 : X.cell? ⟨b + 1 + 1 + 1, 8, none⟩ = some (.bool false) := D3.cell 8
  have z0 := D3.frozen 0
  have z1 := D3.frozen 1
  have z2 := D3.frozen 2
  have z3 := D3.frozen 3
  have z4 := D3.frozen 4
  have z5 := D3.frozen 5
  have z6 := D3.frozen 6
  have z7 := D3.frozen 7
  have z8 := D3.frozen 8
  obtain ⟨R, hR, BR, kR⟩ : ∃ R, (((((((((X.setCell ⟨b + 1 + 1 + 1, 0, none⟩ (.int .u32 (r.p.a : Int))).setCell ⟨b + 1 + 1 + 1, 1, none⟩ (.int .i64 r.p.l)).setCell ⟨b + 1 + 1 + 1, 2, none⟩ (.int .i64 2)).setCell ⟨b + 1 + 1 + 1, 3, none⟩ (.int .i64 M)).setCell ⟨b + 1 + 1 + 1, 4, none⟩ (.int .i64 0)).setCell ⟨b + 1 + 1 + 1, 5, none⟩ (.int .i64 h.f)).setCell ⟨b + 1 + 1 + 1, 6, none⟩ (.int .u32 (h.a : Int))).setCell ⟨b + 1 + 1 + 1, 7, none⟩ (.int .i64 (now + c.t2))).setCell ⟨b + 1 + 1 + 1, 8, none⟩ (.bool true)) = R ∧ Blk R (b + 1 + 1 + 1) 48 (roC (⟨r.p, 2, M, 0, h.f, h.a, now + c.t2, true⟩ : Rt)) ∧ Kp w R := ⟨_, rfl, Blk.putRo D3 (⟨r.p, 2, M, 0, h.f, h.a, now + c.t2, true⟩ : Rt), Kp.putRo kX (by omega) (⟨r.p, 2, M, 0, h.f, h.a, now + c.t2, true⟩ : Rt)⟩
  obtain ⟨u0, u1, u2, u3, u4, u5, u6, u7, u8⟩ := ro_cells BR
  go_enter Tryz.func108, Tryz.ntmps108
  go_wp2_with fail
  exact ⟨rfl, roV (⟨r.p, 2, M, 0, h.f, h.a, now + c.t2, true⟩ : Rt), by simp [results, Tryz.results108, go_sem, lostR, u0, u1, u2, u3, u4, u5, u6, u7, u8], rfl, kR⟩
set_option maxRecDepth 100000 in
set_option maxHeartbeats 2000000 in
theorem hr4geA (c : Cf) (A : Option Addr) (n m : Nat) (r : Rt) (h : Hd) (now : Int) (w : World) (hn0 : 0 ≤ now) (hn1 : now ≤ 4611686018427387904) (ht0 : 0 ≤ c.t2) (ht1 : c.t2 ≤ 1000000) (hu0 : 0 ≤ c.t3) (hu1 : c.t3 ≤ 1000000) (hm0 : 1 ≤ h.m) (hm1 : h.m ≤ 16) (M : Int) (hM : h.m + 1 = M) (hM2 : M ≤ 16) (e1 : (r.s == 1) = false) (e2 : (r.s == 2) = false) (e3 : (r.s == 3) = false) (e0 : (r.s == 0) = false) (e4 : (r.s == 4) = true) (el : decide (M < 16) = false) :
    Calls Tryz.prog 108 #[cfV c A n m, roV r, .agg #[.int .i64 h.f, .int .u32 (h.a : Int), .int .i64 h.m], .int .i64 now] w (RRetP r w) := by
  obtain ⟨b, hb⟩ : ∃ b, w.heap.size = b := ⟨_, rfl⟩
  obtain ⟨W0, hW0, k0, B0, B1, B2⟩ : ∃ W, ((w.alloc (.cells (cfC c A n m) 24)).alloc (.cells (roC r) 48)).alloc (.cells #[.int .i64 h.f, .int .u32 (h.a : Int), .int .i64 h.m] 31) = W ∧ Kp w W ∧ Blk W b 24 (cfC c A n m) ∧ Blk W (b + 1) 48 (roC r) ∧ Blk W (b + 1 + 1) 31 #[.int .i64 h.f, .int .u32 (h.a : Int), .int .i64 h.m] := ⟨_, rfl, (((Kp.refl _).alloc _).alloc _).alloc _, by rw [← hb]; exact ((Blk.new w _ _).alloc _).alloc _, by rw [← hb]; exact (Blk.new1 w _ _ _).alloc _, by rw [← hb]; exact Blk.new2 w _ _ _ _⟩
  have hs0 : W0.heap.size = b + 1 + 1 + 1 := by rw [← hW0, ← hb]; simp
  obtain ⟨W, hW, kW, C0, C1, C2, C3, hs⟩ : ∃ W, W0.alloc (.cells zero9 48) = W ∧ Kp w W ∧ Blk W b 24 (cfC c A n m) ∧ Blk W (b + 1) 48 (roC r) ∧ Blk W (b + 1 + 1) 31 #[.int .i64 h.f, .int .u32 (h.a : Int), .int .i64 h.m] ∧ Blk W (b + 1 + 1 + 1) 48 zero9 ∧ W.heap.size = b + 1 + 1 + 1 + 1 := ⟨_, rfl, k0.alloc _, B0.alloc _, B1.alloc _, B2.alloc _, by rw [← hs0]; exact Blk.new _ _ _, by simp [hs0]⟩
  obtain ⟨X, hX, kX, D0, D1, D2, D3, D4⟩ : ∃ X, W.alloc (.cells #[.int .u32 (r.p.a : Int), .int .i64 r.p.l, .int .i64 2, .int .i64 M, .int .i64 0, .int .i64 h.f, .int .u32 (h.a : Int), .int .i64 (now + c.t2), .bool true] 48) = X ∧ Kp w X ∧ Blk X b 24 (cfC c A n m) ∧ Blk X (b + 1) 48 (roC r) ∧ Blk X (b + 1 + 1) 31 #[.int .i64 h.f, .int .u32 (h.a : Int), .int .i64 h.m] ∧ Blk X (b + 1 + 1 + 1) 48 zero9 ∧ Blk X (b + 1 + 1 + 1 + 1) 48 #[.int .u32 (r.p.a : Int), .int .i64 r.p.l, .int .i64 2, .int .i64 M, .int .i64 0, .int .i64 h.f, .int .u32 (h.a : Int), .int .i64 (now + c.t2), .bool true] := ⟨_, rfl, kW.alloc _, C0.alloc _, C1.alloc _, C2.alloc _, C3.alloc _, by rw [← hs]; exact Blk.new _ _ _⟩
  unfold cfC roC at hW0
  unfold zero9 at hW
  have wc2 : W.cell? ⟨b, 2, none⟩ = some (.int .i64 c.t2) := C0.cell 2
  have wc3 : W.cell? ⟨b, 3, none⟩ = some (.int .i64 c.t3) := C0.cell 3
  have wp0 : W.cell? ⟨b + 1, 0, none⟩ = some (.int .u32 (r.p.a : Int)) := C1.cell 0
  have wp1 : W.cell? ⟨b + 1, 1, none⟩ = some (.int .i64 r.p.l) := C1.cell 1
  have wh0 : W.cell? ⟨b + 1 + 1, 0, none⟩ = some (.int .i64 h.f) := C2.cell 0
  have wh1 : W.cell? ⟨b + 1 + 1, 1, none⟩ = some (.int .u32 (h.a : Int)) := C2.cell 1
  have wh2 : W.cell? ⟨b + 1 + 1, 2, none⟩ = some (.int .i64 h.m) := C2.cell 2
  have xc0 : X.cell? ⟨b, 0, none⟩ = some (.int .i64 c.t0) := D0.cell 0
  have xc1 : X.cell? ⟨b, 1, none⟩ = some (.int .i64 c.t1) := D0.cell 1
  have xc2 : X.cell? ⟨b, 2, none⟩ = some (.int .i64 c.t2) := D0.cell 2
  have xc3 : X.cell? ⟨b, 3, none⟩ = some (.int .i64 c.t3) := D0.cell 3
  have xc4 : X.cell? ⟨b, 4, none⟩ = some (.int .i64 c.t4) := D0.cell 4
  have xc5 : X.cell? ⟨b, 5, none⟩ = some (.int .i64 c.t5) := D0.cell 5
  have xc6 : X.cell? ⟨b, 6, none⟩ = some (.int .i64 c.t6) := D0.cell 6
  have xc7 : X.cell? ⟨b, 7, none⟩ = some (.int .i64 c.cap) := D0.cell 7
  have xc8 : X.cell? ⟨b, 8, none⟩ = some (.slice A n m) := D0.cell 8
  have xp0 : X.cell? ⟨b + 1, 0, none⟩ = some (.int .u32 (r.p.a : Int)) := D1.cell 0
  have xp1 : X.cell? ⟨b + 1, 1, none⟩ = some (.int .i64 r.p.l) := D1.cell 1
  have xp2 : X.cell? ⟨b + 1, 2, none⟩ = some (.int .i64 r.s) := D1.cell 2
  have xp3 : X.cell? ⟨b + 1, 3, none⟩ = some (.int .i64 r.m) := D1.cell 3
  have xp4 : X.cell? ⟨b + 1, 4, none⟩ = some (.int .i64 r.l) := D1.cell 4
  have xp5 : X.cell? ⟨b + 1, 5, none⟩ = some (.int .i64 r.f) := D1.cell 5
  have xp6 : X.cell? ⟨b + 1, 6, none⟩ = some (.int .u32 (r.x : Int)) := D1.cell 6
  have xp7 : X.cell? ⟨b + 1, 7, none⟩ = some (.int .i64 r.d) := D1.cell 7
  have xp8 : X.cell? ⟨b + 1, 8, none⟩ = some (.bool r.c) := D1.cell 8
  have xh0 : X.cell? ⟨b + 1 + 1, 0, none⟩ = some (.int .i64 h.f) := D2.cell 0
  have xh1 : X.cell? ⟨b + 1 + 1, 1, none⟩ = some (.int .u32 (h.a : Int)) := D2.cell 1
  have xn0 : X.cell? ⟨b + 1 + 1 + 1 + 1, 0, none⟩ = some (.int .u32 (r.p.a : Int)) := D4.cell 0
  have xn1 : X.cell? ⟨b + 1 + 1 + 1 + 1, 1, none⟩ = some (.int .i64 r.p.l) := D4.cell 1
  have xn2 : X.cell? ⟨b + 1 + 1 + 1 + 1, 2, none⟩ = some (.int .i64 2) := D4.cell 2
  have xn3 : X.cell? ⟨b + 1 + 1 + 1 + 1, 3, none⟩ = some (.int .i64 M) := D4.cell 3
  have xn4 : X.cell? ⟨b + 1 + 1 + 1 + 1, 4, none⟩ = some (.int .i64 0) := D4.cell 4
  have xn5 : X.cell? ⟨b + 1 + 1 + 1 + 1, 5, none⟩ = some (.int .i64 h.f) := D4.cell 5
  have xn6 : X.cell? ⟨b + 1 + 1 + 1 + 1, 6, none⟩ = some (.int .u32 (h.a : Int)) := D4.cell 6
  have xn7 : X.cell? ⟨b + 1 + 1 + 1 + 1, 7, none⟩ = some (.int .i64 (now + c.t2)) := D4.cell 7
  have xn8 : X.cell? ⟨b + 1 + 1 + 1 + 1, 8, none⟩ = some (.bool true) := D4.cell 8
  have q0 : X.cell? ⟨b + 1 + 1 + 1, 0, none⟩ = some (.int .u32 0) := D3.cell 0
  have q1 : X.cell? ⟨b + 1 + 1 + 1, 1, none⟩ = some (.int .i64 0) := D3.cell 1
  have q2 : X.cell? ⟨b + 1 + 1 + 1, 2, none⟩ = some (.int .i64 0) := D3.cell 2
  have q3 : X.cell? ⟨b + 1 + 1 + 1, 3, none⟩ = some (.int .i64 0) := D3.cell 3
  have q4 : X.cell? ⟨b + 1 + 1 + 1, 4, none⟩ = some (.int .i64 0) := D3.cell 4
  have q5 : X.cell? ⟨b + 1 + 1 + 1, 5, none⟩ = some (.int .i64 0) := D3.cell 5
  have q6 : X.cell? ⟨b + 1 + 1 + 1, 6, none⟩ = some (.int .u32 0) := D3.cell 6
  have q7 : X.cell? ⟨b + 1 + 1 + 1, 7, none⟩ = some (.int .i64 0) := D3.cell 7
  have q8 : X.cell? ⟨b + 1 + 1 + 1, 8, none⟩ = some (.bool false) := D3.cell 8
  have z0 := D3.frozen 0
  have z1 := D3.frozen 1
  have z2 := D3.frozen 2
  have z3 := D3.frozen 3
  have z4 := D3.frozen 4
  have z5 := D3.frozen 5
  have z6 := D3.frozen 6
  have z7 := D3.frozen 7
  have z8 := D3.frozen 8
  obtain ⟨R, hR, BR, kR⟩ : ∃ R, (((((((((X.setCell ⟨b + 1 + 1 + 1, 0, none⟩ (.int .u32 (r.p.a : Int))).setCell ⟨b + 1 + 1 + 1, 1, none⟩ (.int .i64 r.p.l)).setCell ⟨b + 1 + 1 + 1, 2, none⟩ (.int .i64 r.s)).setCell ⟨b + 1 + 1 + 1, 3, none⟩ (.int .i64 r.m)).setCell ⟨b + 1 + 1 + 1, 4, none⟩ (.int .i64 r.l)).setCell ⟨b + 1 + 1 + 1, 5, none⟩ (.int .i64 r.f)).setCell ⟨b + 1 + 1 + 1, 6, none⟩ (.int .u32 (r.x : Int))).setCell ⟨b + 1 + 1 + 1, 7, none⟩ (.int .i64 r.d)).setCell ⟨b + 1 + 1 + 1, 8, none⟩ (.bool r.c)) = R ∧ Blk R (b + 1 + 1 + 1) 48 (roC r) ∧ Kp w R := ⟨_, rfl, Blk.putRo D3 r, Kp.putRo kX (by omega) r⟩
  obtain ⟨u0, u1, u2, u3, u4, u5, u6, u7, u8⟩ := ro_cells BR
  go_enter Tryz.func108, Tryz.ntmps108
  go_wp2_with fail
  exact ⟨rfl, roV r, by simp [results, Tryz.results108, go_sem, lostR, u0, u1, u2, u3, u4, u5, u6, u7, u8], rfl, kR⟩
end Go.Proofs.YtffckpkikdlbpaaGreatDoor
