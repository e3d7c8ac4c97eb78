/- Lemmas and contracts for the theorem of this claim: RoY. -/
import Derived.Test.YtffckpkikdlbpaaGreatDoorZuAm
set_option linter.all false
set_option maxHeartbeats 16000000
namespace Go.Proofs.YtffckpkikdlbpaaGreatDoor
section
open Go.RowKit
set_option maxRecDepth 100000 in
theorem hr1B (c : Cf) (A : Option Addr) (n m : Nat) (r : Rt) (h : Hd) (now : Int) (w : World) (hn0 : 0 ≤ now) (hn1 : now ≤ 4611686018427387904) (ht0 : 0 ≤ c.t2) (ht1 : c.t2 ≤ 1000000) (hu0 : 0 ≤ c.t3) (hu1 : c.t3 ≤ 1000000) (hm0 : 1 ≤ h.m) (hm1 : h.m ≤ 16) (hM : 16 < h.m + 1) (e1 : (r.s == 1) = true) :
  Calls Tryz.prog 108 #[cfV c A n m, roV r, .agg #[.int .i64 h.f, .int .u32 (h.a : Int), .int .i64 h.m], .int .i64 now] w (RRetP r w) := by
 obtain ⟨b, hb⟩ : ∃ b, w.heap.size = b := ⟨_, rfl⟩
 obtain ⟨W0, hW0, k0, B0, B1, B2⟩ := Blk.al3 hb (cfC c A n m) 24 (roC r) 48 #[.int .i64 h.f, .int .u32 (h.a : Int), .int .i64 h.m] 31
 have hs0 : W0.heap.size = b + 1 + 1 + 1 := by rw [← hW0, ← hb]; simp
 obtain ⟨W, hW, kW, C0, C1, C2, C3, hs⟩ : ∃ W, W0.alloc (.cells zero9 48) = W ∧ Kp w W ∧ Blk W b 24 (cfC c A n m) ∧ Blk W (b + 1) 48 (roC r) ∧ Blk W (b + 1 + 1) 31 #[.int .i64 h.f, .int .u32 (h.a : Int), .int .i64 h.m] ∧ Blk W (b + 1 + 1 + 1) 48 zero9 ∧ W.heap.size = b + 1 + 1 + 1 + 1 := ⟨_, rfl, k0.alloc _, B0.alloc _, B1.alloc _, B2.alloc _, by rw [← hs0]; exact Blk.new _ _ _, by simp [hs0]⟩
 obtain ⟨X, hX, kX, D0, D1, D2, D3, D4⟩ : ∃ X, W.alloc (.cells #[.int .u32 (r.p.a : Int), .int .i64 r.p.l, .int .i64 2, .int .i64 16, .int .i64 0, .int .i64 h.f, .int .u32 (h.a : Int), .int .i64 (now + c.t2), .bool true] 48) = X ∧ Kp w X ∧ Blk X b 24 (cfC c A n m) ∧ Blk X (b + 1) 48 (roC r) ∧ Blk X (b + 1 + 1) 31 #[.int .i64 h.f, .int .u32 (h.a : Int), .int .i64 h.m] ∧ Blk X (b + 1 + 1 + 1) 48 zero9 ∧ Blk X (b + 1 + 1 + 1 + 1) 48 #[.int .u32 (r.p.a : Int), .int .i64 r.p.l, .int .i64 2, .int .i64 16, .int .i64 0, .int .i64 h.f, .int .u32 (h.a : Int), .int .i64 (now + c.t2), .bool true] := ⟨_, rfl, kW.alloc _, C0.alloc _, C1.alloc _, C2.alloc _, C3.alloc _, by rw [← hs]; exact Blk.new _ _ _⟩
 unfold cfC roC at hW0
 unfold zero9 at hW
 have wc2 := Blk.f C0 rfl
 have wp0 := Blk.f C1 rfl
 have wh0 := Blk.f C2 rfl
 have xc0 := Blk.f D0 rfl
 have xp0 := Blk.f D1 rfl
 have xh0 := Blk.f D2 rfl
 have xn0 := Blk.f (l := [.int .u32 (r.p.a : Int), .int .i64 r.p.l, .int .i64 2, .int .i64 16, .int .i64 0, .int .i64 h.f, .int .u32 (h.a : Int), .int .i64 (now + c.t2), .bool true]) D4 rfl
 have q0 := Blk.f (l := [.int .u32 0, .int .i64 0, .int .i64 0, .int .i64 0, .int .i64 0, .int .i64 0, .int .u32 0, .int .i64 0, .bool false]) D3 rfl
 have z0 := Blk.frozen D3
 obtain ⟨R, hR, BR, kR⟩ : ∃ R, (((((((((X.setCell ⟨b + 1 + 1 + 1, 0, none⟩ (.int .u32 (r.p.a : Int))).setCell ⟨b + 1 + 1 + 1, 1, none⟩ (.int .i64 r.p.l)).setCell ⟨b + 1 + 1 + 1, 2, none⟩ (.int .i64 r.s)).setCell ⟨b + 1 + 1 + 1, 3, none⟩ (.int .i64 r.m)).setCell ⟨b + 1 + 1 + 1, 4, none⟩ (.int .i64 r.l)).setCell ⟨b + 1 + 1 + 1, 5, none⟩ (.int .i64 r.f)).setCell ⟨b + 1 + 1 + 1, 6, none⟩ (.int .u32 (r.x : Int))).setCell ⟨b + 1 + 1 + 1, 7, none⟩ (.int .i64 r.d)).setCell ⟨b + 1 + 1 + 1, 8, none⟩ (.bool r.c)) = R ∧ Blk R (b + 1 + 1 + 1) 48 (roC r) ∧ Kp w R := ⟨_, rfl, Blk.putRo D3 r, Kp.putRo kX (by omega) r⟩
 obtain ⟨u0, u1, u2, u3, u4, u5, u6, u7, u8⟩ := vab BR
 go_enter Tryz.func108, Tryz.ntmps108
 go_wp2_with fail
 exact ⟨rfl, roV r, by simp [results, Tryz.results108, go_sem, lostR, u0, u1, u2, u3, u4, u5, u6, u7, u8], rfl, kR⟩
set_option maxRecDepth 100000 in
theorem hr2lostB (c : Cf) (A : Option Addr) (n m : Nat) (r : Rt) (h : Hd) (now : Int) (w : World) (hn0 : 0 ≤ now) (hn1 : now ≤ 4611686018427387904) (ht0 : 0 ≤ c.t2) (ht1 : c.t2 ≤ 1000000) (hu0 : 0 ≤ c.t3) (hu1 : c.t3 ≤ 1000000) (hm0 : 1 ≤ h.m) (hm1 : h.m ≤ 16) (hM : 16 < h.m + 1) (e1 : (r.s == 1) = false) (e2 : (r.s == 2) = true) (ef : (h.f == r.f) = true) (ex : ((h.a : Int) == (r.x : Int)) = true) (em : (16 == r.m) = false) :
  Calls Tryz.prog 108 #[cfV c A n m, roV r, .agg #[.int .i64 h.f, .int .u32 (h.a : Int), .int .i64 h.m], .int .i64 now] w (RRetP (lostR c r now) w) := by
 obtain ⟨b, hb⟩ : ∃ b, w.heap.size = b := ⟨_, rfl⟩
 obtain ⟨W0, hW0, k0, B0, B1, B2⟩ := Blk.al3 hb (cfC c A n m) 24 (roC r) 48 #[.int .i64 h.f, .int .u32 (h.a : Int), .int .i64 h.m] 31
 have hs0 : W0.heap.size = b + 1 + 1 + 1 := by rw [← hW0, ← hb]; simp
 obtain ⟨W, hW, kW, C0, C1, C2, C3, hs⟩ : ∃ W, W0.alloc (.cells zero9 48) = W ∧ Kp w W ∧ Blk W b 24 (cfC c A n m) ∧ Blk W (b + 1) 48 (roC r) ∧ Blk W (b + 1 + 1) 31 #[.int .i64 h.f, .int .u32 (h.a : Int), .int .i64 h.m] ∧ Blk W (b + 1 + 1 + 1) 48 zero9 ∧ W.heap.size = b + 1 + 1 + 1 + 1 := ⟨_, rfl, k0.alloc _, B0.alloc _, B1.alloc _, B2.alloc _, by rw [← hs0]; exact Blk.new _ _ _, by simp [hs0]⟩
 obtain ⟨X, hX, kX, D0, D1, D2, D3, D4⟩ : ∃ X, W.alloc (.cells #[.int .u32 (r.p.a : Int), .int .i64 r.p.l, .int .i64 2, .int .i64 16, .int .i64 0, .int .i64 h.f, .int .u32 (h.a : Int), .int .i64 (now + c.t2), .bool true] 48) = X ∧ Kp w X ∧ Blk X b 24 (cfC c A n m) ∧ Blk X (b + 1) 48 (roC r) ∧ Blk X (b + 1 + 1) 31 #[.int .i64 h.f, .int .u32 (h.a : Int), .int .i64 h.m] ∧ Blk X (b + 1 + 1 + 1) 48 zero9 ∧ Blk X (b + 1 + 1 + 1 + 1) 48 #[.int .u32 (r.p.a : Int), .int .i64 r.p.l, .int .i64 2, .int .i64 16, .int .i64 0, .int .i64 h.f, .int .u32 (h.a : Int), .int .i64 (now + c.t2), .bool true] := ⟨_, rfl, kW.alloc _, C0.alloc _, C1.alloc _, C2.alloc _, C3.alloc _, by rw [← hs]; exact Blk.new _ _ _⟩
 unfold cfC roC at hW0
 unfold zero9 at hW
 have wc2 := Blk.f C0 rfl
 have wp0 := Blk.f C1 rfl
 have wh0 := Blk.f C2 rfl
 have xc0 := Blk.f D0 rfl
 have xp0 := Blk.f D1 rfl
 have xh0 := Blk.f D2 rfl
 have xn0 := Blk.f (l := [.int .u32 (r.p.a : Int), .int .i64 r.p.l, .int .i64 2, .int .i64 16, .int .i64 0, .int .i64 h.f, .int .u32 (h.a : Int), .int .i64 (now + c.t2), .bool true]) D4 rfl
 go_enter Tryz.func108, Tryz.ntmps108
 go_wp2_with fail
 refine (vcR c A n m r now _ hn0 hn1 hu0 hu1).mono ?_
 rintro e Y ⟨rfl, hK⟩
 have kY := kX.trans hK
 have E3 := D3.keep hK
 clear xc0 xp0 xh0 xn0
 have q0 := Blk.f (l := [.int .u32 0, .int .i64 0, .int .i64 0, .int .i64 0, .int .i64 0, .int .i64 0, .int .u32 0, .int .i64 0, .bool false]) E3 rfl
 have z0 := Blk.frozen E3
 obtain ⟨R, hR, BR, kR⟩ : ∃ R, (((((((((Y.setCell ⟨b + 1 + 1 + 1, 0, none⟩ (.int .u32 (r.p.a : Int))).setCell ⟨b + 1 + 1 + 1, 1, none⟩ (.int .i64 r.p.l)).setCell ⟨b + 1 + 1 + 1, 2, none⟩ (.int .i64 3)).setCell ⟨b + 1 + 1 + 1, 3, none⟩ (.int .i64 16)).setCell ⟨b + 1 + 1 + 1, 4, none⟩ (.int .i64 r.m)).setCell ⟨b + 1 + 1 + 1, 5, none⟩ (.int .i64 r.f)).setCell ⟨b + 1 + 1 + 1, 6, none⟩ (.int .u32 (r.x : Int))).setCell ⟨b + 1 + 1 + 1, 7, none⟩ (.int .i64 (now + c.t3))).setCell ⟨b + 1 + 1 + 1, 8, none⟩ (.bool true)) = R ∧ Blk R (b + 1 + 1 + 1) 48 (roC (lostR c r now)) ∧ Kp w R := ⟨_, rfl, Blk.putRo E3 (lostR c r now), Kp.putRo kY (by omega) (lostR c r now)⟩
 obtain ⟨u0, u1, u2, u3, u4, u5, u6, u7, u8⟩ := vab BR
 simp only [lostR] at u0 u1 u2 u3 u4 u5 u6 u7 u8
 simp only [lostR]
 go_wp2_with fail
 exact ⟨rfl, roV (lostR c r now), by simp [results, Tryz.results108, go_sem, lostR, u0, u1, u2, u3, u4, u5, u6, u7, u8], rfl, kR⟩
set_option maxRecDepth 100000 in
theorem hr2gefB (c : Cf) (A : Option Addr) (n m : Nat) (r : Rt) (h : Hd) (now : Int) (w : World) (hn0 : 0 ≤ now) (hn1 : now ≤ 4611686018427387904) (ht0 : 0 ≤ c.t2) (ht1 : c.t2 ≤ 1000000) (hu0 : 0 ≤ c.t3) (hu1 : c.t3 ≤ 1000000) (hm0 : 1 ≤ h.m) (hm1 : h.m ≤ 16) (hM : 16 < h.m + 1) (e1 : (r.s == 1) = false) (e2 : (r.s == 2) = true) (ef : (h.f == r.f) = false) (el : decide (16 < r.m) = false) :
  Calls Tryz.prog 108 #[cfV c A n m, roV r, .agg #[.int .i64 h.f, .int .u32 (h.a : Int), .int .i64 h.m], .int .i64 now] w (RRetP r w) := by
 obtain ⟨b, hb⟩ : ∃ b, w.heap.size = b := ⟨_, rfl⟩
 obtain ⟨W0, hW0, k0, B0, B1, B2⟩ := Blk.al3 hb (cfC c A n m) 24 (roC r) 48 #[.int .i64 h.f, .int .u32 (h.a : Int), .int .i64 h.m] 31
 have hs0 : W0.heap.size = b + 1 + 1 + 1 := by rw [← hW0, ← hb]; simp
 obtain ⟨W, hW, kW, C0, C1, C2, C3, hs⟩ : ∃ W, W0.alloc (.cells zero9 48) = W ∧ Kp w W ∧ Blk W b 24 (cfC c A n m) ∧ Blk W (b + 1) 48 (roC r) ∧ Blk W (b + 1 + 1) 31 #[.int .i64 h.f, .int .u32 (h.a : Int), .int .i64 h.m] ∧ Blk W (b + 1 + 1 + 1) 48 zero9 ∧ W.heap.size = b + 1 + 1 + 1 + 1 := ⟨_, rfl, k0.alloc _, B0.alloc _, B1.alloc _, B2.alloc _, by rw [← hs0]; exact Blk.new _ _ _, by simp [hs0]⟩
 obtain ⟨X, hX, kX, D0, D1, D2, D3, D4⟩ : ∃ X, W.alloc (.cells #[.int .u32 (r.p.a : Int), .int .i64 r.p.l, .int .i64 2, .int .i64 16, .int .i64 0, .int .i64 h.f, .int .u32 (h.a : Int), .int .i64 (now + c.t2), .bool true] 48) = X ∧ Kp w X ∧ Blk X b 24 (cfC c A n m) ∧ Blk X (b + 1) 48 (roC r) ∧ Blk X (b + 1 + 1) 31 #[.int .i64 h.f, .int .u32 (h.a : Int), .int .i64 h.m] ∧ Blk X (b + 1 + 1 + 1) 48 zero9 ∧ Blk X (b + 1 + 1 + 1 + 1) 48 #[.int .u32 (r.p.a : Int), .int .i64 r.p.l, .int .i64 2, .int .i64 16, .int .i64 0, .int .i64 h.f, .int .u32 (h.a : Int), .int .i64 (now + c.t2), .bool true] := ⟨_, rfl, kW.alloc _, C0.alloc _, C1.alloc _, C2.alloc _, C3.alloc _, by rw [← hs]; exact Blk.new _ _ _⟩
 unfold cfC roC at hW0
 unfold zero9 at hW
 have wc2 := Blk.f C0 rfl
 have wp0 := Blk.f C1 rfl
 have wh0 := Blk.f C2 rfl
 have xc0 := Blk.f D0 rfl
 have xp0 := Blk.f D1 rfl
 have xh0 := Blk.f D2 rfl
 have xn0 := Blk.f (l := [.int .u32 (r.p.a : Int), .int .i64 r.p.l, .int .i64 2, .int .i64 16, .int .i64 0, .int .i64 h.f, .int .u32 (h.a : Int), .int .i64 (now + c.t2), .bool true]) D4 rfl
 have q0 := Blk.f (l := [.int .u32 0, .int .i64 0, .int .i64 0, .int .i64 0, .int .i64 0, .int .i64 0, .int .u32 0, .int .i64 0, .bool false]) D3 rfl
 have z0 := Blk.frozen D3
 obtain ⟨R, hR, BR, kR⟩ : ∃ R, (((((((((X.setCell ⟨b + 1 + 1 + 1, 0, none⟩ (.int .u32 (r.p.a : Int))).setCell ⟨b + 1 + 1 + 1, 1, none⟩ (.int .i64 r.p.l)).setCell ⟨b + 1 + 1 + 1, 2, none⟩ (.int .i64 r.s)).setCell ⟨b + 1 + 1 + 1, 3, none⟩ (.int .i64 r.m)).setCell ⟨b + 1 + 1 + 1, 4, none⟩ (.int .i64 r.l)).setCell ⟨b + 1 + 1 + 1, 5, none⟩ (.int .i64 r.f)).setCell ⟨b + 1 + 1 + 1, 6, none⟩ (.int .u32 (r.x : Int))).setCell ⟨b + 1 + 1 + 1, 7, none⟩ (.int .i64 r.d)).setCell ⟨b + 1 + 1 + 1, 8, none⟩ (.bool r.c)) = R ∧ Blk R (b + 1 + 1 + 1) 48 (roC r) ∧ Kp w R := ⟨_, rfl, Blk.putRo D3 r, Kp.putRo kX (by omega) r⟩
 obtain ⟨u0, u1, u2, u3, u4, u5, u6, u7, u8⟩ := vab BR
 go_enter Tryz.func108, Tryz.ntmps108
 go_wp2_with fail
 exact ⟨rfl, roV r, by simp [results, Tryz.results108, go_sem, lostR, u0, u1, u2, u3, u4, u5, u6, u7, u8], rfl, kR⟩
set_option maxRecDepth 100000 in
theorem hr2gexB (c : Cf) (A : Option Addr) (n m : Nat) (r : Rt) (h : Hd) (now : Int) (w : World) (hn0 : 0 ≤ now) (hn1 : now ≤ 4611686018427387904) (ht0 : 0 ≤ c.t2) (ht1 : c.t2 ≤ 1000000) (hu0 : 0 ≤ c.t3) (hu1 : c.t3 ≤ 1000000) (hm0 : 1 ≤ h.m) (hm1 : h.m ≤ 16) (hM : 16 < h.m + 1) (e1 : (r.s == 1) = false) (e2 : (r.s == 2) = true) (ef : (h.f == r.f) = true) (ex : ((h.a : Int) == (r.x : Int)) = false) (el : decide (16 < r.m) = false) :
  Calls Tryz.prog 108 #[cfV c A n m, roV r, .agg #[.int .i64 h.f, .int .u32 (h.a : Int), .int .i64 h.m], .int .i64 now] w (RRetP r w) := by
 obtain ⟨b, hb⟩ : ∃ b, w.heap.size = b := ⟨_, rfl⟩
 obtain ⟨W0, hW0, k0, B0, B1, B2⟩ := Blk.al3 hb (cfC c A n m) 24 (roC r) 48 #[.int .i64 h.f, .int .u32 (h.a : Int), .int .i64 h.m] 31
 have hs0 : W0.heap.size = b + 1 + 1 + 1 := by rw [← hW0, ← hb]; simp
 obtain ⟨W, hW, kW, C0, C1, C2, C3, hs⟩ : ∃ W, W0.alloc (.cells zero9 48) = W ∧ Kp w W ∧ Blk W b 24 (cfC c A n m) ∧ Blk W (b + 1) 48 (roC r) ∧ Blk W (b + 1 + 1) 31 #[.int .i64 h.f, .int .u32 (h.a : Int), .int .i64 h.m] ∧ Blk W (b + 1 + 1 + 1) 48 zero9 ∧ W.heap.size = b + 1 + 1 + 1 + 1 := ⟨_, rfl, k0.alloc _, B0.alloc _, B1.alloc _, B2.alloc _, by rw [← hs0]; exact Blk.new _ _ _, by simp [hs0]⟩
 obtain ⟨X, hX, kX, D0, D1, D2, D3, D4⟩ : ∃ X, W.alloc (.cells #[.int .u32 (r.p.a : Int), .int .i64 r.p.l, .int .i64 2, .int .i64 16, .int .i64 0, .int .i64 h.f, .int .u32 (h.a : Int), .int .i64 (now + c.t2), .bool true] 48) = X ∧ Kp w X ∧ Blk X b 24 (cfC c A n m) ∧ Blk X (b + 1) 48 (roC r) ∧ Blk X (b + 1 + 1) 31 #[.int .i64 h.f, .int .u32 (h.a : Int), .int .i64 h.m] ∧ Blk X (b + 1 + 1 + 1) 48 zero9 ∧ Blk X (b + 1 + 1 + 1 + 1) 48 #[.int .u32 (r.p.a : Int), .int .i64 r.p.l, .int .i64 2, .int .i64 16, .int .i64 0, .int .i64 h.f, .int .u32 (h.a : Int), .int .i64 (now + c.t2), .bool true] := ⟨_, rfl, kW.alloc _, C0.alloc _, C1.alloc _, C2.alloc _, C3.alloc _, by rw [← hs]; exact Blk.new _ _ _⟩
 unfold cfC roC at hW0
 unfold zero9 at hW
 have wc2 := Blk.f C0 rfl
 have wp0 := Blk.f C1 rfl
 have wh0 := Blk.f C2 rfl
 have xc0 := Blk.f D0 rfl
 have xp0 := Blk.f D1 rfl
 have xh0 := Blk.f D2 rfl
 have xn0 := Blk.f (l := [.int .u32 (r.p.a : Int), .int .i64 r.p.l, .int .i64 2, .int .i64 16, .int .i64 0, .int .i64 h.f, .int .u32 (h.a : Int), .int .i64 (now + c.t2), .bool true]) D4 rfl
 have q0 := Blk.f (l := [.int .u32 0, .int .i64 0, .int .i64 0, .int .i64 0, .int .i64 0, .int .i64 0, .int .u32 0, .int .i64 0, .bool false]) D3 rfl
 have z0 := Blk.frozen D3
 obtain ⟨R, hR, BR, kR⟩ : ∃ R, (((((((((X.setCell ⟨b + 1 + 1 + 1, 0, none⟩ (.int .u32 (r.p.a : Int))).setCell ⟨b + 1 + 1 + 1, 1, none⟩ (.int .i64 r.p.l)).setCell ⟨b + 1 + 1 + 1, 2, none⟩ (.int .i64 r.s)).setCell ⟨b + 1 + 1 + 1, 3, none⟩ (.int .i64 r.m)).setCell ⟨b + 1 + 1 + 1, 4, none⟩ (.int .i64 r.l)).setCell ⟨b + 1 + 1 + 1, 5, none⟩ (.int .i64 r.f)).setCell ⟨b + 1 + 1 + 1, 6, none⟩ (.int .u32 (r.x : Int))).setCell ⟨b + 1 + 1 + 1, 7, none⟩ (.int .i64 r.d)).setCell ⟨b + 1 + 1 + 1, 8, none⟩ (.bool r.c)) = R ∧ Blk R (b + 1 + 1 + 1) 48 (roC r) ∧ Kp w R := ⟨_, rfl, Blk.putRo D3 r, Kp.putRo kX (by omega) r⟩
 obtain ⟨u0, u1, u2, u3, u4, u5, u6, u7, u8⟩ := vab BR
 go_enter Tryz.func108, Tryz.ntmps108
 go_wp2_with fail
 exact ⟨rfl, roV r, by simp [results, Tryz.results108, go_sem, lostR, u0, u1, u2, u3, u4, u5, u6, u7, u8], rfl, kR⟩
set_option maxRecDepth 100000 in
theorem hr3geB (c : Cf) (A : Option Addr) (n m : Nat) (r : Rt) (h : Hd) (now : Int) (w : World) (hn0 : 0 ≤ now) (hn1 : now ≤ 4611686018427387904) (ht0 : 0 ≤ c.t2) (ht1 : c.t2 ≤ 1000000) (hu0 : 0 ≤ c.t3) (hu1 : c.t3 ≤ 1000000) (hm0 : 1 ≤ h.m) (hm1 : h.m ≤ 16) (hM : 16 < h.m + 1) (e1 : (r.s == 1) = false) (e2 : (r.s == 2) = false) (e3 : (r.s == 3) = true) (el : decide (16 < r.l) = false) :
  Calls Tryz.prog 108 #[cfV c A n m, roV r, .agg #[.int .i64 h.f, .int .u32 (h.a : Int), .int .i64 h.m], .int .i64 now] w (RRetP r w) := by
 obtain ⟨b, hb⟩ : ∃ b, w.heap.size = b := ⟨_, rfl⟩
 obtain ⟨W0, hW0, k0, B0, B1, B2⟩ := Blk.al3 hb (cfC c A n m) 24 (roC r) 48 #[.int .i64 h.f, .int .u32 (h.a : Int), .int .i64 h.m] 31
 have hs0 : W0.heap.size = b + 1 + 1 + 1 := by rw [← hW0, ← hb]; simp
 obtain ⟨W, hW, kW, C0, C1, C2, C3, hs⟩ : ∃ W, W0.alloc (.cells zero9 48) = W ∧ Kp w W ∧ Blk W b 24 (cfC c A n m) ∧ Blk W (b + 1) 48 (roC r) ∧ Blk W (b + 1 + 1) 31 #[.int .i64 h.f, .int .u32 (h.a : Int), .int .i64 h.m] ∧ Blk W (b + 1 + 1 + 1) 48 zero9 ∧ W.heap.size = b + 1 + 1 + 1 + 1 := ⟨_, rfl, k0.alloc _, B0.alloc _, B1.alloc _, B2.alloc _, by rw [← hs0]; exact Blk.new _ _ _, by simp [hs0]⟩
 obtain ⟨X, hX, kX, D0, D1, D2, D3, D4⟩ : ∃ X, W.alloc (.cells #[.int .u32 (r.p.a : Int), .int .i64 r.p.l, .int .i64 2, .int .i64 16, .int .i64 0, .int .i64 h.f, .int .u32 (h.a : Int), .int .i64 (now + c.t2), .bool true] 48) = X ∧ Kp w X ∧ Blk X b 24 (cfC c A n m) ∧ Blk X (b + 1) 48 (roC r) ∧ Blk X (b + 1 + 1) 31 #[.int .i64 h.f, .int .u32 (h.a : Int), .int .i64 h.m] ∧ Blk X (b + 1 + 1 + 1) 48 zero9 ∧ Blk X (b + 1 + 1 + 1 + 1) 48 #[.int .u32 (r.p.a : Int), .int .i64 r.p.l, .int .i64 2, .int .i64 16, .int .i64 0, .int .i64 h.f, .int .u32 (h.a : Int), .int .i64 (now + c.t2), .bool true] := ⟨_, rfl, kW.alloc _, C0.alloc _, C1.alloc _, C2.alloc _, C3.alloc _, by rw [← hs]; exact Blk.new _ _ _⟩
 unfold cfC roC at hW0
 unfold zero9 at hW
 have wc2 := Blk.f C0 rfl
 have wp0 := Blk.f C1 rfl
 have wh0 := Blk.f C2 rfl
 have xc0 := Blk.f D0 rfl
 have xp0 := Blk.f D1 rfl
 have xh0 := Blk.f D2 rfl
 have xn0 := Blk.f (l := [.int .u32 (r.p.a : Int), .int .i64 r.p.l, .int .i64 2, .int .i64 16, .int .i64 0, .int .i64 h.f, .int .u32 (h.a : Int), .int .i64 (now + c.t2), .bool true]) D4 rfl
 have q0 := Blk.f (l := [.int .u32 0, .int .i64 0, .int .i64 0, .int .i64 0, .int .i64 0, .int .i64 0, .int .u32 0, .int .i64 0, .bool false]) D3 rfl
 have z0 := Blk.frozen D3
 obtain ⟨R, hR, BR, kR⟩ : ∃ R, (((((((((X.setCell ⟨b + 1 + 1 + 1, 0, none⟩ (.int .u32 (r.p.a : Int))).setCell ⟨b + 1 + 1 + 1, 1, none⟩ (.int .i64 r.p.l)).setCell ⟨b + 1 + 1 + 1, 2, none⟩ (.int .i64 r.s)).setCell ⟨b + 1 + 1 + 1, 3, none⟩ (.int .i64 r.m)).setCell ⟨b + 1 + 1 + 1, 4, none⟩ (.int .i64 r.l)).setCell ⟨b + 1 + 1 + 1, 5, none⟩ (.int .i64 r.f)).setCell ⟨b + 1 + 1 + 1, 6, none⟩ (.int .u32 (r.x : Int))).setCell ⟨b + 1 + 1 + 1, 7, none⟩ (.int .i64 r.d)).setCell ⟨b + 1 + 1 + 1, 8, none⟩ (.bool r.c)) = R ∧ Blk R (b + 1 + 1 + 1) 48 (roC r) ∧ Kp w R := ⟨_, rfl, Blk.putRo D3 r, Kp.putRo kX (by omega) r⟩
 obtain ⟨u0, u1, u2, u3, u4, u5, u6, u7, u8⟩ := vab BR
 go_enter Tryz.func108, Tryz.ntmps108
 go_wp2_with fail
 exact ⟨rfl, roV r, by simp [results, Tryz.results108, go_sem, lostR, u0, u1, u2, u3, u4, u5, u6, u7, u8], rfl, kR⟩
set_option maxRecDepth 100000 in
theorem hr0geB (c : Cf) (A : Option Addr) (n m : Nat) (r : Rt) (h : Hd) (now : Int) (w : World) (hn0 : 0 ≤ now) (hn1 : now ≤ 4611686018427387904) (ht0 : 0 ≤ c.t2) (ht1 : c.t2 ≤ 1000000) (hu0 : 0 ≤ c.t3) (hu1 : c.t3 ≤ 1000000) (hm0 : 1 ≤ h.m) (hm1 : h.m ≤ 16) (hM : 16 < h.m + 1) (e1 : (r.s == 1) = false) (e2 : (r.s == 2) = false) (e3 : (r.s == 3) = false) (e0 : (r.s == 0) = true) :
  Calls Tryz.prog 108 #[cfV c A n m, roV r, .agg #[.int .i64 h.f, .int .u32 (h.a : Int), .int .i64 h.m], .int .i64 now] w (RRetP r w) := by
 obtain ⟨b, hb⟩ : ∃ b, w.heap.size = b := ⟨_, rfl⟩
 obtain ⟨W0, hW0, k0, B0, B1, B2⟩ := Blk.al3 hb (cfC c A n m) 24 (roC r) 48 #[.int .i64 h.f, .int .u32 (h.a : Int), .int .i64 h.m] 31
 have hs0 : W0.heap.size = b + 1 + 1 + 1 := by rw [← hW0, ← hb]; simp
 obtain ⟨W, hW, kW, C0, C1, C2, C3, hs⟩ : ∃ W, W0.alloc (.cells zero9 48) = W ∧ Kp w W ∧ Blk W b 24 (cfC c A n m) ∧ Blk W (b + 1) 48 (roC r) ∧ Blk W (b + 1 + 1) 31 #[.int .i64 h.f, .int .u32 (h.a : Int), .int .i64 h.m] ∧ Blk W (b + 1 + 1 + 1) 48 zero9 ∧ W.heap.size = b + 1 + 1 + 1 + 1 := ⟨_, rfl, k0.alloc _, B0.alloc _, B1.alloc _, B2.alloc _, by rw [← hs0]; exact Blk.new _ _ _, by simp [hs0]⟩
 obtain ⟨X, hX, kX, D0, D1, D2, D3, D4⟩ : ∃ X, W.alloc (.cells #[.int .u32 (r.p.a : Int), .int .i64 r.p.l, .int .i64 2, .int .i64 16, .int .i64 0, .int .i64 h.f, .int .u32 (h.a : Int), .int .i64 (now + c.t2), .bool true] 48) = X ∧ Kp w X ∧ Blk X b 24 (cfC c A n m) ∧ Blk X (b + 1) 48 (roC r) ∧ Blk X (b + 1 + 1) 31 #[.int .i64 h.f, .int .u32 (h.a : Int), .int .i64 h.m] ∧ Blk X (b + 1 + 1 + 1) 48 zero9 ∧ Blk X (b + 1 + 1 + 1 + 1) 48 #[.int .u32 (r.p.a : Int), .int .i64 r.p.l, .int .i64 2, .int .i64 16, .int .i64 0, .int .i64 h.f, .int .u32 (h.a : Int), .int .i64 (now + c.t2), .bool true] := ⟨_, rfl, kW.alloc _, C0.alloc _, C1.alloc _, C2.alloc _, C3.alloc _, by rw [← hs]; exact Blk.new _ _ _⟩
 unfold cfC roC at hW0
 unfold zero9 at hW
 have wc2 := Blk.f C0 rfl
 have wp0 := Blk.f C1 rfl
 have wh0 := Blk.f C2 rfl
 have xc0 := Blk.f D0 rfl
 have xp0 := Blk.f D1 rfl
 have xh0 := Blk.f D2 rfl
 have xn0 := Blk.f (l := [.int .u32 (r.p.a : Int), .int .i64 r.p.l, .int .i64 2, .int .i64 16, .int .i64 0, .int .i64 h.f, .int .u32 (h.a : Int), .int .i64 (now + c.t2), .bool true]) D4 rfl
 have q0 := Blk.f (l := [.int .u32 0, .int .i64 0, .int .i64 0, .int .i64 0, .int .i64 0, .int .i64 0, .int .u32 0, .int .i64 0, .bool false]) D3 rfl
 have z0 := Blk.frozen D3
 obtain ⟨R, hR, BR, kR⟩ : ∃ R, (((((((((X.setCell ⟨b + 1 + 1 + 1, 0, none⟩ (.int .u32 (r.p.a : Int))).setCell ⟨b + 1 + 1 + 1, 1, none⟩ (.int .i64 r.p.l)).setCell ⟨b + 1 + 1 + 1, 2, none⟩ (.int .i64 r.s)).setCell ⟨b + 1 + 1 + 1, 3, none⟩ (.int .i64 r.m)).setCell ⟨b + 1 + 1 + 1, 4, none⟩ (.int .i64 r.l)).setCell ⟨b + 1 + 1 + 1, 5, none⟩ (.int .i64 r.f)).setCell ⟨b + 1 + 1 + 1, 6, none⟩ (.int .u32 (r.x : Int))).setCell ⟨b + 1 + 1 + 1, 7, none⟩ (.int .i64 r.d)).setCell ⟨b + 1 + 1 + 1, 8, none⟩ (.bool r.c)) = R ∧ Blk R (b + 1 + 1 + 1) 48 (roC r) ∧ Kp w R := ⟨_, rfl, Blk.putRo D3 r, Kp.putRo kX (by omega) r⟩
 obtain ⟨u0, u1, u2, u3, u4, u5, u6, u7, u8⟩ := vab BR
 go_enter Tryz.func108, Tryz.ntmps108
 go_wp2_with fail
 exact ⟨rfl, roV r, by simp [results, Tryz.results108, go_sem, lostR, u0, u1, u2, u3, u4, u5, u6, u7, u8], rfl, kR⟩
set_option maxRecDepth 100000 in
theorem hr4geB (c : Cf) (A : Option Addr) (n m : Nat) (r : Rt) (h : Hd) (now : Int) (w : World) (hn0 : 0 ≤ now) (hn1 : now ≤ 4611686018427387904) (ht0 : 0 ≤ c.t2) (ht1 : c.t2 ≤ 1000000) (hu0 : 0 ≤ c.t3) (hu1 : c.t3 ≤ 1000000) (hm0 : 1 ≤ h.m) (hm1 : h.m ≤ 16) (hM : 16 < h.m + 1) (e1 : (r.s == 1) = false) (e2 : (r.s == 2) = false) (e3 : (r.s == 3) = false) (e0 : (r.s == 0) = false) (e4 : (r.s == 4) = true) :
  Calls Tryz.prog 108 #[cfV c A n m, roV r, .agg #[.int .i64 h.f, .int .u32 (h.a : Int), .int .i64 h.m], .int .i64 now] w (RRetP r w) := by
 obtain ⟨b, hb⟩ : ∃ b, w.heap.size = b := ⟨_, rfl⟩
 obtain ⟨W0, hW0, k0, B0, B1, B2⟩ := Blk.al3 hb (cfC c A n m) 24 (roC r) 48 #[.int .i64 h.f, .int .u32 (h.a : Int), .int .i64 h.m] 31
 have hs0 : W0.heap.size = b + 1 + 1 + 1 := by rw [← hW0, ← hb]; simp
 obtain ⟨W, hW, kW, C0, C1, C2, C3, hs⟩ : ∃ W, W0.alloc (.cells zero9 48) = W ∧ Kp w W ∧ Blk W b 24 (cfC c A n m) ∧ Blk W (b + 1) 48 (roC r) ∧ Blk W (b + 1 + 1) 31 #[.int .i64 h.f, .int .u32 (h.a : Int), .int .i64 h.m] ∧ Blk W (b + 1 + 1 + 1) 48 zero9 ∧ W.heap.size = b + 1 + 1 + 1 + 1 := ⟨_, rfl, k0.alloc _, B0.alloc _, B1.alloc _, B2.alloc _, by rw [← hs0]; exact Blk.new _ _ _, by simp [hs0]⟩
 obtain ⟨X, hX, kX, D0, D1, D2, D3, D4⟩ : ∃ X, W.alloc (.cells #[.int .u32 (r.p.a : Int), .int .i64 r.p.l, .int .i64 2, .int .i64 16, .int .i64 0, .int .i64 h.f, .int .u32 (h.a : Int), .int .i64 (now + c.t2), .bool true] 48) = X ∧ Kp w X ∧ Blk X b 24 (cfC c A n m) ∧ Blk X (b + 1) 48 (roC r) ∧ Blk X (b + 1 + 1) 31 #[.int .i64 h.f, .int .u32 (h.a : Int), .int .i64 h.m] ∧ Blk X (b + 1 + 1 + 1) 48 zero9 ∧ Blk X (b + 1 + 1 + 1 + 1) 48 #[.int .u32 (r.p.a : Int), .int .i64 r.p.l, .int .i64 2, .int .i64 16, .int .i64 0, .int .i64 h.f, .int .u32 (h.a : Int), .int .i64 (now + c.t2), .bool true] := ⟨_, rfl, kW.alloc _, C0.alloc _, C1.alloc _, C2.alloc _, C3.alloc _, by rw [← hs]; exact Blk.new _ _ _⟩
 unfold cfC roC at hW0
 unfold zero9 at hW
 have wc2 := Blk.f C0 rfl
 have wp0 := Blk.f C1 rfl
 have wh0 := Blk.f C2 rfl
 have xc0 := Blk.f D0 rfl
 have xp0 := Blk.f D1 rfl
 have xh0 := Blk.f D2 rfl
 have xn0 := Blk.f (l := [.int .u32 (r.p.a : Int), .int .i64 r.p.l, .int .i64 2, .int .i64 16, .int .i64 0, .int .i64 h.f, .int .u32 (h.a : Int), .int .i64 (now + c.t2), .bool true]) D4 rfl
 have q0 := Blk.f (l := [.int .u32 0, .int .i64 0, .int .i64 0, .int .i64 0, .int .i64 0, .int .i64 0, .int .u32 0, .int .i64 0, .bool false]) D3 rfl
 have z0 := Blk.frozen D3
 obtain ⟨R, hR, BR, kR⟩ : ∃ R, (((((((((X.setCell ⟨b + 1 + 1 + 1, 0, none⟩ (.int .u32 (r.p.a : Int))).setCell ⟨b + 1 + 1 + 1, 1, none⟩ (.int .i64 r.p.l)).setCell ⟨b + 1 + 1 + 1, 2, none⟩ (.int .i64 r.s)).setCell ⟨b + 1 + 1 + 1, 3, none⟩ (.int .i64 r.m)).setCell ⟨b + 1 + 1 + 1, 4, none⟩ (.int .i64 r.l)).setCell ⟨b + 1 + 1 + 1, 5, none⟩ (.int .i64 r.f)).setCell ⟨b + 1 + 1 + 1, 6, none⟩ (.int .u32 (r.x : Int))).setCell ⟨b + 1 + 1 + 1, 7, none⟩ (.int .i64 r.d)).setCell ⟨b + 1 + 1 + 1, 8, none⟩ (.bool r.c)) = R ∧ Blk R (b + 1 + 1 + 1) 48 (roC r) ∧ Kp w R := ⟨_, rfl, Blk.putRo D3 r, Kp.putRo kX (by omega) r⟩
 obtain ⟨u0, u1, u2, u3, u4, u5, u6, u7, u8⟩ := vab BR
 go_enter Tryz.func108, Tryz.ntmps108
 go_wp2_with fail
 exact ⟨rfl, roV r, by simp [results, Tryz.results108, go_sem, lostR, u0, u1, u2, u3, u4, u5, u6, u7, u8], rfl, kR⟩
end

end Go.Proofs.YtffckpkikdlbpaaGreatDoor
