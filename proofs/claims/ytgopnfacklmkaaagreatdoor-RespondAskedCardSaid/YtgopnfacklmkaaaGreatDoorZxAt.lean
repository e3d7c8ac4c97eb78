/- Lemmas and contracts for the theorem of this claim: RoC, RoX. -/
import Derived.Test.YtgopnfacklmkaaaGreatDoorZxAs
set_option linter.all false
set_option maxHeartbeats 16000000
namespace Go.Proofs.YtgopnfacklmkaaaGreatDoor
section
open Go.RowKit
set_option maxRecDepth 100000 in
theorem hr1A (c : Cf) (A : Option Addr) (n m : Nat) (r : Rt) (h : Hd) (now : Int) (w : World) (hn0 : 0 ≤ now) (hn1 : now ≤ 4611686018427387904) (ht0 : 0 ≤ c.t2) (ht1 : c.t2 ≤ 1000000) (hu0 : 0 ≤ c.t3) (hu1 : c.t3 ≤ 1000000) (hm0 : 1 ≤ h.m) (hm1 : h.m ≤ 16) (M : Int) (hM : h.m + 1 = M) (hM2 : M ≤ 16) (e1 : (r.s == 1) = true) :
  Calls Tryz.prog 124 #[cfV c A n m, roV r, .agg #[.int .i64 h.f, .int .u32 (h.a : Int), .int .i64 h.m], .int .i64 now] w (RRetP r w) := by
 obtain ⟨b, W, X, hb, hW, hs, hX, C0, C1, C2, kX, D0, D1, D2, D3, D4⟩ := hearLay c A n m r h w #[.int .u32 (r.p.a : Int), .int .i64 r.p.l, .int .i64 2, .int .i64 M, .int .i64 0, .int .i64 h.f, .int .u32 (h.a : Int), .int .i64 (now + c.t2), .bool true]
 unfold cfC roC zero9 at hW
 have wc2 := Blk.f C0 rfl
 have wp0 := Blk.f C1 rfl
 have wh0 := Blk.f C2 rfl
 have xc0 := Blk.f D0 rfl
 have xp0 := Blk.f D1 rfl
 have xh0 := Blk.f D2 rfl
 have xn0 := Blk.f (l := [.int .u32 (r.p.a : Int), .int .i64 r.p.l, .int .i64 2, .int .i64 M, .int .i64 0, .int .i64 h.f, .int .u32 (h.a : Int), .int .i64 (now + c.t2), .bool true]) D4 rfl
 have q0 := Blk.f (l := [.int .u32 0, .int .i64 0, .int .i64 0, .int .i64 0, .int .i64 0, .int .i64 0, .int .u32 0, .int .i64 0, .bool false]) D3 rfl
 have z0 := Blk.frozen D3
 obtain ⟨R, hR, BR, kR⟩ := Blk.put9 D3 r kX (by omega)
 simp only [roSet] at hR
 obtain ⟨u0, u1, u2, u3, u4, u5, u6, u7, u8⟩ := vac BR
 go_enter Tryz.func124, Tryz.ntmps124
 go_wp2_with fail
 exact ⟨rfl, roV r, by simp [results, Tryz.results124, go_sem, lostR, u0, u1, u2, u3, u4, u5, u6, u7, u8], rfl, kR⟩
set_option maxRecDepth 100000 in
theorem hr2dueA (c : Cf) (A : Option Addr) (n m : Nat) (r : Rt) (h : Hd) (now : Int) (w : World) (hn0 : 0 ≤ now) (hn1 : now ≤ 4611686018427387904) (ht0 : 0 ≤ c.t2) (ht1 : c.t2 ≤ 1000000) (hu0 : 0 ≤ c.t3) (hu1 : c.t3 ≤ 1000000) (hm0 : 1 ≤ h.m) (hm1 : h.m ≤ 16) (M : Int) (hM : h.m + 1 = M) (hM2 : M ≤ 16) (e1 : (r.s == 1) = false) (e2 : (r.s == 2) = true) (ef : (h.f == r.f) = true) (ex : ((h.a : Int) == (r.x : Int)) = true) (em : (M == r.m) = true) :
  Calls Tryz.prog 124 #[cfV c A n m, roV r, .agg #[.int .i64 h.f, .int .u32 (h.a : Int), .int .i64 h.m], .int .i64 now] w (RRetP (⟨r.p, r.s, r.m, r.l, r.f, r.x, now + c.t2, r.c⟩ : Rt) w) := by
 obtain ⟨b, W, X, hb, hW, hs, hX, C0, C1, C2, kX, D0, D1, D2, D3, D4⟩ := hearLay c A n m r h w #[.int .u32 (r.p.a : Int), .int .i64 r.p.l, .int .i64 2, .int .i64 M, .int .i64 0, .int .i64 h.f, .int .u32 (h.a : Int), .int .i64 (now + c.t2), .bool true]
 unfold cfC roC zero9 at hW
 have wc2 := Blk.f C0 rfl
 have wp0 := Blk.f C1 rfl
 have wh0 := Blk.f C2 rfl
 have xc0 := Blk.f D0 rfl
 have xp0 := Blk.f D1 rfl
 have xh0 := Blk.f D2 rfl
 have xn0 := Blk.f (l := [.int .u32 (r.p.a : Int), .int .i64 r.p.l, .int .i64 2, .int .i64 M, .int .i64 0, .int .i64 h.f, .int .u32 (h.a : Int), .int .i64 (now + c.t2), .bool true]) D4 rfl
 have y7 := D1.frozen 7
 obtain ⟨Y, hY, kY, E1, E3⟩ : ∃ Y, X.setCell ⟨b + 1, 7, none⟩ (.int .i64 (now + c.t2)) = Y ∧ Kp w Y ∧ Blk Y (b + 1) 52 #[.int .u32 (r.p.a : Int), .int .i64 r.p.l, .int .i64 r.s, .int .i64 r.m, .int .i64 r.l, .int .i64 r.f, .int .u32 (r.x : Int), .int .i64 (now + c.t2), .bool r.c] ∧ Blk Y (b + 1 + 1 + 1) 52 zero9 := ⟨_, rfl, kX.setCell (p := ⟨b + 1, 7, none⟩) (by show w.heap.size ≤ b + 1; omega) _, by have H := D1.set_ 7 (.int .i64 (now + c.t2)); simp only [roC, List.setIfInBounds_toArray, List.set_cons_zero, List.set_cons_succ] at H; exact H, D3.far (p := ⟨b + 1, 7, none⟩) (by show b + 1 + 1 + 1 ≠ b + 1; omega) _⟩
 have yp0 := Blk.f (l := [.int .u32 (r.p.a : Int), .int .i64 r.p.l, .int .i64 r.s, .int .i64 r.m, .int .i64 r.l, .int .i64 r.f, .int .u32 (r.x : Int), .int .i64 (now + c.t2), .bool r.c]) E1 rfl
 have q0 := Blk.f (l := [.int .u32 0, .int .i64 0, .int .i64 0, .int .i64 0, .int .i64 0, .int .i64 0, .int .u32 0, .int .i64 0, .bool false]) E3 rfl
 have z0 := Blk.frozen E3
 obtain ⟨R, hR, BR, kR⟩ := Blk.put9 E3 (⟨r.p, r.s, r.m, r.l, r.f, r.x, now + c.t2, r.c⟩ : Rt) kY (by omega)
 simp only [roSet] at hR
 obtain ⟨u0, u1, u2, u3, u4, u5, u6, u7, u8⟩ := vac BR
 go_enter Tryz.func124, Tryz.ntmps124
 go_wp2_with fail
 exact ⟨rfl, roV (⟨r.p, r.s, r.m, r.l, r.f, r.x, now + c.t2, r.c⟩ : Rt), by simp [results, Tryz.results124, go_sem, lostR, u0, u1, u2, u3, u4, u5, u6, u7, u8], rfl, kR⟩
set_option maxRecDepth 100000 in
theorem hr2lostA (c : Cf) (A : Option Addr) (n m : Nat) (r : Rt) (h : Hd) (now : Int) (w : World) (hn0 : 0 ≤ now) (hn1 : now ≤ 4611686018427387904) (ht0 : 0 ≤ c.t2) (ht1 : c.t2 ≤ 1000000) (hu0 : 0 ≤ c.t3) (hu1 : c.t3 ≤ 1000000) (hm0 : 1 ≤ h.m) (hm1 : h.m ≤ 16) (M : Int) (hM : h.m + 1 = M) (hM2 : M ≤ 16) (e1 : (r.s == 1) = false) (e2 : (r.s == 2) = true) (ef : (h.f == r.f) = true) (ex : ((h.a : Int) == (r.x : Int)) = true) (em : (M == r.m) = false) (el : (M == 16) = true) :
  Calls Tryz.prog 124 #[cfV c A n m, roV r, .agg #[.int .i64 h.f, .int .u32 (h.a : Int), .int .i64 h.m], .int .i64 now] w (RRetP (lostR c r now) w) := by
 obtain ⟨b, W, X, hb, hW, hs, hX, C0, C1, C2, kX, D0, D1, D2, D3, D4⟩ := hearLay c A n m r h w #[.int .u32 (r.p.a : Int), .int .i64 r.p.l, .int .i64 2, .int .i64 M, .int .i64 0, .int .i64 h.f, .int .u32 (h.a : Int), .int .i64 (now + c.t2), .bool true]
 unfold cfC roC zero9 at hW
 have wc2 := Blk.f C0 rfl
 have wp0 := Blk.f C1 rfl
 have wh0 := Blk.f C2 rfl
 have xc0 := Blk.f D0 rfl
 have xp0 := Blk.f D1 rfl
 have xh0 := Blk.f D2 rfl
 have xn0 := Blk.f (l := [.int .u32 (r.p.a : Int), .int .i64 r.p.l, .int .i64 2, .int .i64 M, .int .i64 0, .int .i64 h.f, .int .u32 (h.a : Int), .int .i64 (now + c.t2), .bool true]) D4 rfl
 go_enter Tryz.func124, Tryz.ntmps124
 go_wp2_with fail
 refine (vfq c A n m r now _ hn0 hn1 hu0 hu1).mono ?_
 rintro e Y ⟨rfl, hK⟩
 have kY := kX.trans hK
 have E3 := D3.keep hK
 clear xc0 xp0 xh0 xn0
 have q0 := Blk.f (l := [.int .u32 0, .int .i64 0, .int .i64 0, .int .i64 0, .int .i64 0, .int .i64 0, .int .u32 0, .int .i64 0, .bool false]) E3 rfl
 have z0 := Blk.frozen E3
 obtain ⟨R, hR, BR, kR⟩ := Blk.put9 E3 (lostR c r now) kY (by omega)
 simp only [roSet, lostR] at hR
 obtain ⟨u0, u1, u2, u3, u4, u5, u6, u7, u8⟩ := vac BR
 simp only [lostR] at u0 u1 u2 u3 u4 u5 u6 u7 u8
 simp only [lostR]
 go_wp2_with fail
 exact ⟨rfl, roV (lostR c r now), by simp [results, Tryz.results124, go_sem, lostR, u0, u1, u2, u3, u4, u5, u6, u7, u8], rfl, kR⟩
set_option maxRecDepth 100000 in
theorem hr2newA (c : Cf) (A : Option Addr) (n m : Nat) (r : Rt) (h : Hd) (now : Int) (w : World) (hn0 : 0 ≤ now) (hn1 : now ≤ 4611686018427387904) (ht0 : 0 ≤ c.t2) (ht1 : c.t2 ≤ 1000000) (hu0 : 0 ≤ c.t3) (hu1 : c.t3 ≤ 1000000) (hm0 : 1 ≤ h.m) (hm1 : h.m ≤ 16) (M : Int) (hM : h.m + 1 = M) (hM2 : M ≤ 16) (e1 : (r.s == 1) = false) (e2 : (r.s == 2) = true) (ef : (h.f == r.f) = true) (ex : ((h.a : Int) == (r.x : Int)) = true) (em : (M == r.m) = false) (el : (M == 16) = false) :
  Calls Tryz.prog 124 #[cfV c A n m, roV r, .agg #[.int .i64 h.f, .int .u32 (h.a : Int), .int .i64 h.m], .int .i64 now] w (RRetP (⟨r.p, 2, M, 0, h.f, h.a, now + c.t2, true⟩ : Rt) w) := by
 obtain ⟨b, W, X, hb, hW, hs, hX, C0, C1, C2, kX, D0, D1, D2, D3, D4⟩ := hearLay c A n m r h w #[.int .u32 (r.p.a : Int), .int .i64 r.p.l, .int .i64 2, .int .i64 M, .int .i64 0, .int .i64 h.f, .int .u32 (h.a : Int), .int .i64 (now + c.t2), .bool true]
 unfold cfC roC zero9 at hW
 have wc2 := Blk.f C0 rfl
 have wp0 := Blk.f C1 rfl
 have wh0 := Blk.f C2 rfl
 have xc0 := Blk.f D0 rfl
 have xp0 := Blk.f D1 rfl
 have xh0 := Blk.f D2 rfl
 have xn0 := Blk.f (l := [.int .u32 (r.p.a : Int), .int .i64 r.p.l, .int .i64 2, .int .i64 M, .int .i64 0, .int .i64 h.f, .int .u32 (h.a : Int), .int .i64 (now + c.t2), .bool true]) D4 rfl
 have q0 := Blk.f (l := [.int .u32 0, .int .i64 0, .int .i64 0, .int .i64 0, .int .i64 0, .int .i64 0, .int .u32 0, .int .i64 0, .bool false]) D3 rfl
 have z0 := Blk.frozen D3
 obtain ⟨R, hR, BR, kR⟩ := Blk.put9 D3 (⟨r.p, 2, M, 0, h.f, h.a, now + c.t2, true⟩ : Rt) kX (by omega)
 simp only [roSet] at hR
 obtain ⟨u0, u1, u2, u3, u4, u5, u6, u7, u8⟩ := vac BR
 go_enter Tryz.func124, Tryz.ntmps124
 go_wp2_with fail
 exact ⟨rfl, roV (⟨r.p, 2, M, 0, h.f, h.a, now + c.t2, true⟩ : Rt), by simp [results, Tryz.results124, go_sem, lostR, u0, u1, u2, u3, u4, u5, u6, u7, u8], rfl, kR⟩
set_option maxRecDepth 100000 in
theorem hr2ltfA (c : Cf) (A : Option Addr) (n m : Nat) (r : Rt) (h : Hd) (now : Int) (w : World) (hn0 : 0 ≤ now) (hn1 : now ≤ 4611686018427387904) (ht0 : 0 ≤ c.t2) (ht1 : c.t2 ≤ 1000000) (hu0 : 0 ≤ c.t3) (hu1 : c.t3 ≤ 1000000) (hm0 : 1 ≤ h.m) (hm1 : h.m ≤ 16) (M : Int) (hM : h.m + 1 = M) (hM2 : M ≤ 16) (e1 : (r.s == 1) = false) (e2 : (r.s == 2) = true) (ef : (h.f == r.f) = false) (el : decide (M < r.m) = true) :
  Calls Tryz.prog 124 #[cfV c A n m, roV r, .agg #[.int .i64 h.f, .int .u32 (h.a : Int), .int .i64 h.m], .int .i64 now] w (RRetP (⟨r.p, 2, M, 0, h.f, h.a, now + c.t2, true⟩ : Rt) w) := by
 obtain ⟨b, W, X, hb, hW, hs, hX, C0, C1, C2, kX, D0, D1, D2, D3, D4⟩ := hearLay c A n m r h w #[.int .u32 (r.p.a : Int), .int .i64 r.p.l, .int .i64 2, .int .i64 M, .int .i64 0, .int .i64 h.f, .int .u32 (h.a : Int), .int .i64 (now + c.t2), .bool true]
 unfold cfC roC zero9 at hW
 have wc2 := Blk.f C0 rfl
 have wp0 := Blk.f C1 rfl
 have wh0 := Blk.f C2 rfl
 have xc0 := Blk.f D0 rfl
 have xp0 := Blk.f D1 rfl
 have xh0 := Blk.f D2 rfl
 have xn0 := Blk.f (l := [.int .u32 (r.p.a : Int), .int .i64 r.p.l, .int .i64 2, .int .i64 M, .int .i64 0, .int .i64 h.f, .int .u32 (h.a : Int), .int .i64 (now + c.t2), .bool true]) D4 rfl
 have q0 := Blk.f (l := [.int .u32 0, .int .i64 0, .int .i64 0, .int .i64 0, .int .i64 0, .int .i64 0, .int .u32 0, .int .i64 0, .bool false]) D3 rfl
 have z0 := Blk.frozen D3
 obtain ⟨R, hR, BR, kR⟩ := Blk.put9 D3 (⟨r.p, 2, M, 0, h.f, h.a, now + c.t2, true⟩ : Rt) kX (by omega)
 simp only [roSet] at hR
 obtain ⟨u0, u1, u2, u3, u4, u5, u6, u7, u8⟩ := vac BR
 go_enter Tryz.func124, Tryz.ntmps124
 go_wp2_with fail
 exact ⟨rfl, roV (⟨r.p, 2, M, 0, h.f, h.a, now + c.t2, true⟩ : Rt), by simp [results, Tryz.results124, go_sem, lostR, u0, u1, u2, u3, u4, u5, u6, u7, u8], rfl, kR⟩
set_option maxRecDepth 100000 in
theorem hr2gefA (c : Cf) (A : Option Addr) (n m : Nat) (r : Rt) (h : Hd) (now : Int) (w : World) (hn0 : 0 ≤ now) (hn1 : now ≤ 4611686018427387904) (ht0 : 0 ≤ c.t2) (ht1 : c.t2 ≤ 1000000) (hu0 : 0 ≤ c.t3) (hu1 : c.t3 ≤ 1000000) (hm0 : 1 ≤ h.m) (hm1 : h.m ≤ 16) (M : Int) (hM : h.m + 1 = M) (hM2 : M ≤ 16) (e1 : (r.s == 1) = false) (e2 : (r.s == 2) = true) (ef : (h.f == r.f) = false) (el : decide (M < r.m) = false) :
  Calls Tryz.prog 124 #[cfV c A n m, roV r, .agg #[.int .i64 h.f, .int .u32 (h.a : Int), .int .i64 h.m], .int .i64 now] w (RRetP r w) := by
 obtain ⟨b, W, X, hb, hW, hs, hX, C0, C1, C2, kX, D0, D1, D2, D3, D4⟩ := hearLay c A n m r h w #[.int .u32 (r.p.a : Int), .int .i64 r.p.l, .int .i64 2, .int .i64 M, .int .i64 0, .int .i64 h.f, .int .u32 (h.a : Int), .int .i64 (now + c.t2), .bool true]
 unfold cfC roC zero9 at hW
 have wc2 := Blk.f C0 rfl
 have wp0 := Blk.f C1 rfl
 have wh0 := Blk.f C2 rfl
 have xc0 := Blk.f D0 rfl
 have xp0 := Blk.f D1 rfl
 have xh0 := Blk.f D2 rfl
 have xn0 := Blk.f (l := [.int .u32 (r.p.a : Int), .int .i64 r.p.l, .int .i64 2, .int .i64 M, .int .i64 0, .int .i64 h.f, .int .u32 (h.a : Int), .int .i64 (now + c.t2), .bool true]) D4 rfl
 have q0 := Blk.f (l := [.int .u32 0, .int .i64 0, .int .i64 0, .int .i64 0, .int .i64 0, .int .i64 0, .int .u32 0, .int .i64 0, .bool false]) D3 rfl
 have z0 := Blk.frozen D3
 obtain ⟨R, hR, BR, kR⟩ := Blk.put9 D3 r kX (by omega)
 simp only [roSet] at hR
 obtain ⟨u0, u1, u2, u3, u4, u5, u6, u7, u8⟩ := vac BR
 go_enter Tryz.func124, Tryz.ntmps124
 go_wp2_with fail
 exact ⟨rfl, roV r, by simp [results, Tryz.results124, go_sem, lostR, u0, u1, u2, u3, u4, u5, u6, u7, u8], rfl, kR⟩
set_option maxRecDepth 100000 in
theorem hr2ltxA (c : Cf) (A : Option Addr) (n m : Nat) (r : Rt) (h : Hd) (now : Int) (w : World) (hn0 : 0 ≤ now) (hn1 : now ≤ 4611686018427387904) (ht0 : 0 ≤ c.t2) (ht1 : c.t2 ≤ 1000000) (hu0 : 0 ≤ c.t3) (hu1 : c.t3 ≤ 1000000) (hm0 : 1 ≤ h.m) (hm1 : h.m ≤ 16) (M : Int) (hM : h.m + 1 = M) (hM2 : M ≤ 16) (e1 : (r.s == 1) = false) (e2 : (r.s == 2) = true) (ef : (h.f == r.f) = true) (ex : ((h.a : Int) == (r.x : Int)) = false) (el : decide (M < r.m) = true) :
  Calls Tryz.prog 124 #[cfV c A n m, roV r, .agg #[.int .i64 h.f, .int .u32 (h.a : Int), .int .i64 h.m], .int .i64 now] w (RRetP (⟨r.p, 2, M, 0, h.f, h.a, now + c.t2, true⟩ : Rt) w) := by
 obtain ⟨b, W, X, hb, hW, hs, hX, C0, C1, C2, kX, D0, D1, D2, D3, D4⟩ := hearLay c A n m r h w #[.int .u32 (r.p.a : Int), .int .i64 r.p.l, .int .i64 2, .int .i64 M, .int .i64 0, .int .i64 h.f, .int .u32 (h.a : Int), .int .i64 (now + c.t2), .bool true]
 unfold cfC roC zero9 at hW
 have wc2 := Blk.f C0 rfl
 have wp0 := Blk.f C1 rfl
 have wh0 := Blk.f C2 rfl
 have xc0 := Blk.f D0 rfl
 have xp0 := Blk.f D1 rfl
 have xh0 := Blk.f D2 rfl
 have xn0 := Blk.f (l := [.int .u32 (r.p.a : Int), .int .i64 r.p.l, .int .i64 2, .int .i64 M, .int .i64 0, .int .i64 h.f, .int .u32 (h.a : Int), .int .i64 (now + c.t2), .bool true]) D4 rfl
 have q0 := Blk.f (l := [.int .u32 0, .int .i64 0, .int .i64 0, .int .i64 0, .int .i64 0, .int .i64 0, .int .u32 0, .int .i64 0, .bool false]) D3 rfl
 have z0 := Blk.frozen D3
 obtain ⟨R, hR, BR, kR⟩ := Blk.put9 D3 (⟨r.p, 2, M, 0, h.f, h.a, now + c.t2, true⟩ : Rt) kX (by omega)
 simp only [roSet] at hR
 obtain ⟨u0, u1, u2, u3, u4, u5, u6, u7, u8⟩ := vac BR
 go_enter Tryz.func124, Tryz.ntmps124
 go_wp2_with fail
 exact ⟨rfl, roV (⟨r.p, 2, M, 0, h.f, h.a, now + c.t2, true⟩ : Rt), by simp [results, Tryz.results124, go_sem, lostR, u0, u1, u2, u3, u4, u5, u6, u7, u8], rfl, kR⟩
set_option maxRecDepth 100000 in
theorem hr2gexA (c : Cf) (A : Option Addr) (n m : Nat) (r : Rt) (h : Hd) (now : Int) (w : World) (hn0 : 0 ≤ now) (hn1 : now ≤ 4611686018427387904) (ht0 : 0 ≤ c.t2) (ht1 : c.t2 ≤ 1000000) (hu0 : 0 ≤ c.t3) (hu1 : c.t3 ≤ 1000000) (hm0 : 1 ≤ h.m) (hm1 : h.m ≤ 16) (M : Int) (hM : h.m + 1 = M) (hM2 : M ≤ 16) (e1 : (r.s == 1) = false) (e2 : (r.s == 2) = true) (ef : (h.f == r.f) = true) (ex : ((h.a : Int) == (r.x : Int)) = false) (el : decide (M < r.m) = false) :
  Calls Tryz.prog 124 #[cfV c A n m, roV r, .agg #[.int .i64 h.f, .int .u32 (h.a : Int), .int .i64 h.m], .int .i64 now] w (RRetP r w) := by
 obtain ⟨b, W, X, hb, hW, hs, hX, C0, C1, C2, kX, D0, D1, D2, D3, D4⟩ := hearLay c A n m r h w #[.int .u32 (r.p.a : Int), .int .i64 r.p.l, .int .i64 2, .int .i64 M, .int .i64 0, .int .i64 h.f, .int .u32 (h.a : Int), .int .i64 (now + c.t2), .bool true]
 unfold cfC roC zero9 at hW
 have wc2 := Blk.f C0 rfl
 have wp0 := Blk.f C1 rfl
 have wh0 := Blk.f C2 rfl
 have xc0 := Blk.f D0 rfl
 have xp0 := Blk.f D1 rfl
 have xh0 := Blk.f D2 rfl
 have xn0 := Blk.f (l := [.int .u32 (r.p.a : Int), .int .i64 r.p.l, .int .i64 2, .int .i64 M, .int .i64 0, .int .i64 h.f, .int .u32 (h.a : Int), .int .i64 (now + c.t2), .bool true]) D4 rfl
 have q0 := Blk.f (l := [.int .u32 0, .int .i64 0, .int .i64 0, .int .i64 0, .int .i64 0, .int .i64 0, .int .u32 0, .int .i64 0, .bool false]) D3 rfl
 have z0 := Blk.frozen D3
 obtain ⟨R, hR, BR, kR⟩ := Blk.put9 D3 r kX (by omega)
 simp only [roSet] at hR
 obtain ⟨u0, u1, u2, u3, u4, u5, u6, u7, u8⟩ := vac BR
 go_enter Tryz.func124, Tryz.ntmps124
 go_wp2_with fail
 exact ⟨rfl, roV r, by simp [results, Tryz.results124, go_sem, lostR, u0, u1, u2, u3, u4, u5, u6, u7, u8], rfl, kR⟩
set_option maxRecDepth 100000 in
theorem hr3ltA (c : Cf) (A : Option Addr) (n m : Nat) (r : Rt) (h : Hd) (now : Int) (w : World) (hn0 : 0 ≤ now) (hn1 : now ≤ 4611686018427387904) (ht0 : 0 ≤ c.t2) (ht1 : c.t2 ≤ 1000000) (hu0 : 0 ≤ c.t3) (hu1 : c.t3 ≤ 1000000) (hm0 : 1 ≤ h.m) (hm1 : h.m ≤ 16) (M : Int) (hM : h.m + 1 = M) (hM2 : M ≤ 16) (e1 : (r.s == 1) = false) (e2 : (r.s == 2) = false) (e3 : (r.s == 3) = true) (el : decide (M < r.l) = true) :
  Calls Tryz.prog 124 #[cfV c A n m, roV r, .agg #[.int .i64 h.f, .int .u32 (h.a : Int), .int .i64 h.m], .int .i64 now] w (RRetP (⟨r.p, 2, M, 0, h.f, h.a, now + c.t2, true⟩ : Rt) w) := by
 obtain ⟨b, W, X, hb, hW, hs, hX, C0, C1, C2, kX, D0, D1, D2, D3, D4⟩ := hearLay c A n m r h w #[.int .u32 (r.p.a : Int), .int .i64 r.p.l, .int .i64 2, .int .i64 M, .int .i64 0, .int .i64 h.f, .int .u32 (h.a : Int), .int .i64 (now + c.t2), .bool true]
 unfold cfC roC zero9 at hW
 have wc2 := Blk.f C0 rfl
 have wp0 := Blk.f C1 rfl
 have wh0 := Blk.f C2 rfl
 have xc0 := Blk.f D0 rfl
 have xp0 := Blk.f D1 rfl
 have xh0 := Blk.f D2 rfl
 have xn0 := Blk.f (l := [.int .u32 (r.p.a : Int), .int .i64 r.p.l, .int .i64 2, .int .i64 M, .int .i64 0, .int .i64 h.f, .int .u32 (h.a : Int), .int .i64 (now + c.t2), .bool true]) D4 rfl
 have q0 := Blk.f (l := [.int .u32 0, .int .i64 0, .int .i64 0, .int .i64 0, .int .i64 0, .int .i64 0, .int .u32 0, .int .i64 0, .bool false]) D3 rfl
 have z0 := Blk.frozen D3
 obtain ⟨R, hR, BR, kR⟩ := Blk.put9 D3 (⟨r.p, 2, M, 0, h.f, h.a, now + c.t2, true⟩ : Rt) kX (by omega)
 simp only [roSet] at hR
 obtain ⟨u0, u1, u2, u3, u4, u5, u6, u7, u8⟩ := vac BR
 go_enter Tryz.func124, Tryz.ntmps124
 go_wp2_with fail
 exact ⟨rfl, roV (⟨r.p, 2, M, 0, h.f, h.a, now + c.t2, true⟩ : Rt), by simp [results, Tryz.results124, go_sem, lostR, u0, u1, u2, u3, u4, u5, u6, u7, u8], rfl, kR⟩
set_option maxRecDepth 100000 in
theorem hr3geA (c : Cf) (A : Option Addr) (n m : Nat) (r : Rt) (h : Hd) (now : Int) (w : World) (hn0 : 0 ≤ now) (hn1 : now ≤ 4611686018427387904) (ht0 : 0 ≤ c.t2) (ht1 : c.t2 ≤ 1000000) (hu0 : 0 ≤ c.t3) (hu1 : c.t3 ≤ 1000000) (hm0 : 1 ≤ h.m) (hm1 : h.m ≤ 16) (M : Int) (hM : h.m + 1 = M) (hM2 : M ≤ 16) (e1 : (r.s == 1) = false) (e2 : (r.s == 2) = false) (e3 : (r.s == 3) = true) (el : decide (M < r.l) = false) :
  Calls Tryz.prog 124 #[cfV c A n m, roV r, .agg #[.int .i64 h.f, .int .u32 (h.a : Int), .int .i64 h.m], .int .i64 now] w (RRetP r w) := by
 obtain ⟨b, W, X, hb, hW, hs, hX, C0, C1, C2, kX, D0, D1, D2, D3, D4⟩ := hearLay c A n m r h w #[.int .u32 (r.p.a : Int), .int .i64 r.p.l, .int .i64 2, .int .i64 M, .int .i64 0, .int .i64 h.f, .int .u32 (h.a : Int), .int .i64 (now + c.t2), .bool true]
 unfold cfC roC zero9 at hW
 have wc2 := Blk.f C0 rfl
 have wp0 := Blk.f C1 rfl
 have wh0 := Blk.f C2 rfl
 have xc0 := Blk.f D0 rfl
 have xp0 := Blk.f D1 rfl
 have xh0 := Blk.f D2 rfl
 have xn0 := Blk.f (l := [.int .u32 (r.p.a : Int), .int .i64 r.p.l, .int .i64 2, .int .i64 M, .int .i64 0, .int .i64 h.f, .int .u32 (h.a : Int), .int .i64 (now + c.t2), .bool true]) D4 rfl
 have q0 := Blk.f (l := [.int .u32 0, .int .i64 0, .int .i64 0, .int .i64 0, .int .i64 0, .int .i64 0, .int .u32 0, .int .i64 0, .bool false]) D3 rfl
 have z0 := Blk.frozen D3
 obtain ⟨R, hR, BR, kR⟩ := Blk.put9 D3 r kX (by omega)
 simp only [roSet] at hR
 obtain ⟨u0, u1, u2, u3, u4, u5, u6, u7, u8⟩ := vac BR
 go_enter Tryz.func124, Tryz.ntmps124
 go_wp2_with fail
 exact ⟨rfl, roV r, by simp [results, Tryz.results124, go_sem, lostR, u0, u1, u2, u3, u4, u5, u6, u7, u8], rfl, kR⟩
set_option maxRecDepth 100000 in
theorem hr0ltA (c : Cf) (A : Option Addr) (n m : Nat) (r : Rt) (h : Hd) (now : Int) (w : World) (hn0 : 0 ≤ now) (hn1 : now ≤ 4611686018427387904) (ht0 : 0 ≤ c.t2) (ht1 : c.t2 ≤ 1000000) (hu0 : 0 ≤ c.t3) (hu1 : c.t3 ≤ 1000000) (hm0 : 1 ≤ h.m) (hm1 : h.m ≤ 16) (M : Int) (hM : h.m + 1 = M) (hM2 : M ≤ 16) (e1 : (r.s == 1) = false) (e2 : (r.s == 2) = false) (e3 : (r.s == 3) = false) (e0 : (r.s == 0) = true) (el : decide (M < 16) = true) :
  Calls Tryz.prog 124 #[cfV c A n m, roV r, .agg #[.int .i64 h.f, .int .u32 (h.a : Int), .int .i64 h.m], .int .i64 now] w (RRetP (⟨r.p, 2, M, 0, h.f, h.a, now + c.t2, true⟩ : Rt) w) := by
 obtain ⟨b, W, X, hb, hW, hs, hX, C0, C1, C2, kX, D0, D1, D2, D3, D4⟩ := hearLay c A n m r h w #[.int .u32 (r.p.a : Int), .int .i64 r.p.l, .int .i64 2, .int .i64 M, .int .i64 0, .int .i64 h.f, .int .u32 (h.a : Int), .int .i64 (now + c.t2), .bool true]
 unfold cfC roC zero9 at hW
 have wc2 := Blk.f C0 rfl
 have wp0 := Blk.f C1 rfl
 have wh0 := Blk.f C2 rfl
 have xc0 := Blk.f D0 rfl
 have xp0 := Blk.f D1 rfl
 have xh0 := Blk.f D2 rfl
 have xn0 := Blk.f (l := [.int .u32 (r.p.a : Int), .int .i64 r.p.l, .int .i64 2, .int .i64 M, .int .i64 0, .int .i64 h.f, .int .u32 (h.a : Int), .int .i64 (now + c.t2), .bool true]) D4 rfl
 have q0 := Blk.f (l := [.int .u32 0, .int .i64 0, .int .i64 0, .int .i64 0, .int .i64 0, .int .i64 0, .int .u32 0, .int .i64 0, .bool false]) D3 rfl
 have z0 := Blk.frozen D3
 obtain ⟨R, hR, BR, kR⟩ := Blk.put9 D3 (⟨r.p, 2, M, 0, h.f, h.a, now + c.t2, true⟩ : Rt) kX (by omega)
 simp only [roSet] at hR
 obtain ⟨u0, u1, u2, u3, u4, u5, u6, u7, u8⟩ := vac BR
 go_enter Tryz.func124, Tryz.ntmps124
 go_wp2_with fail
 exact ⟨rfl, roV (⟨r.p, 2, M, 0, h.f, h.a, now + c.t2, true⟩ : Rt), by simp [results, Tryz.results124, go_sem, lostR, u0, u1, u2, u3, u4, u5, u6, u7, u8], rfl, kR⟩
set_option maxRecDepth 100000 in
theorem hr0geA (c : Cf) (A : Option Addr) (n m : Nat) (r : Rt) (h : Hd) (now : Int) (w : World) (hn0 : 0 ≤ now) (hn1 : now ≤ 4611686018427387904) (ht0 : 0 ≤ c.t2) (ht1 : c.t2 ≤ 1000000) (hu0 : 0 ≤ c.t3) (hu1 : c.t3 ≤ 1000000) (hm0 : 1 ≤ h.m) (hm1 : h.m ≤ 16) (M : Int) (hM : h.m + 1 = M) (hM2 : M ≤ 16) (e1 : (r.s == 1) = false) (e2 : (r.s == 2) = false) (e3 : (r.s == 3) = false) (e0 : (r.s == 0) = true) (el : decide (M < 16) = false) :
  Calls Tryz.prog 124 #[cfV c A n m, roV r, .agg #[.int .i64 h.f, .int .u32 (h.a : Int), .int .i64 h.m], .int .i64 now] w (RRetP r w) := by
 obtain ⟨b, W, X, hb, hW, hs, hX, C0, C1, C2, kX, D0, D1, D2, D3, D4⟩ := hearLay c A n m r h w #[.int .u32 (r.p.a : Int), .int .i64 r.p.l, .int .i64 2, .int .i64 M, .int .i64 0, .int .i64 h.f, .int .u32 (h.a : Int), .int .i64 (now + c.t2), .bool true]
 unfold cfC roC zero9 at hW
 have wc2 := Blk.f C0 rfl
 have wp0 := Blk.f C1 rfl
 have wh0 := Blk.f C2 rfl
 have xc0 := Blk.f D0 rfl
 have xp0 := Blk.f D1 rfl
 have xh0 := Blk.f D2 rfl
 have xn0 := Blk.f (l := [.int .u32 (r.p.a : Int), .int .i64 r.p.l, .int .i64 2, .int .i64 M, .int .i64 0, .int .i64 h.f, .int .u32 (h.a : Int), .int .i64 (now + c.t2), .bool true]) D4 rfl
 have q0 := Blk.f (l := [.int .u32 0, .int .i64 0, .int .i64 0, .int .i64 0, .int .i64 0, .int .i64 0, .int .u32 0, .int .i64 0, .bool false]) D3 rfl
 have z0 := Blk.frozen D3
 obtain ⟨R, hR, BR, kR⟩ := Blk.put9 D3 r kX (by omega)
 simp only [roSet] at hR
 obtain ⟨u0, u1, u2, u3, u4, u5, u6, u7, u8⟩ := vac BR
 go_enter Tryz.func124, Tryz.ntmps124
 go_wp2_with fail
 exact ⟨rfl, roV r, by simp [results, Tryz.results124, go_sem, lostR, u0, u1, u2, u3, u4, u5, u6, u7, u8], rfl, kR⟩
set_option maxRecDepth 100000 in
theorem hr4ltA (c : Cf) (A : Option Addr) (n m : Nat) (r : Rt) (h : Hd) (now : Int) (w : World) (hn0 : 0 ≤ now) (hn1 : now ≤ 4611686018427387904) (ht0 : 0 ≤ c.t2) (ht1 : c.t2 ≤ 1000000) (hu0 : 0 ≤ c.t3) (hu1 : c.t3 ≤ 1000000) (hm0 : 1 ≤ h.m) (hm1 : h.m ≤ 16) (M : Int) (hM : h.m + 1 = M) (hM2 : M ≤ 16) (e1 : (r.s == 1) = false) (e2 : (r.s == 2) = false) (e3 : (r.s == 3) = false) (e0 : (r.s == 0) = false) (e4 : (r.s == 4) = true) (el : decide (M < 16) = true) :
  Calls Tryz.prog 124 #[cfV c A n m, roV r, .agg #[.int .i64 h.f, .int .u32 (h.a : Int), .int .i64 h.m], .int .i64 now] w (RRetP (⟨r.p, 2, M, 0, h.f, h.a, now + c.t2, true⟩ : Rt) w) := by
 obtain ⟨b, W, X, hb, hW, hs, hX, C0, C1, C2, kX, D0, D1, D2, D3, D4⟩ := hearLay c A n m r h w #[.int .u32 (r.p.a : Int), .int .i64 r.p.l, .int .i64 2, .int .i64 M, .int .i64 0, .int .i64 h.f, .int .u32 (h.a : Int), .int .i64 (now + c.t2), .bool true]
 unfold cfC roC zero9 at hW
 have wc2 := Blk.f C0 rfl
 have wp0 := Blk.f C1 rfl
 have wh0 := Blk.f C2 rfl
 have xc0 := Blk.f D0 rfl
 have xp0 := Blk.f D1 rfl
 have xh0 := Blk.f D2 rfl
 have xn0 := Blk.f (l := [.int .u32 (r.p.a : Int), .int .i64 r.p.l, .int .i64 2, .int .i64 M, .int .i64 0, .int .i64 h.f, .int .u32 (h.a : Int), .int .i64 (now + c.t2), .bool true]) D4 rfl
 have q0 := Blk.f (l := [.int .u32 0, .int .i64 0, .int .i64 0, .int .i64 0, .int .i64 0, .int .i64 0, .int .u32 0, .int .i64 0, .bool false]) D3 rfl
 have z0 := Blk.frozen D3
 obtain ⟨R, hR, BR, kR⟩ := Blk.put9 D3 (⟨r.p, 2, M, 0, h.f, h.a, now + c.t2, true⟩ : Rt) kX (by omega)
 simp only [roSet] at hR
 obtain ⟨u0, u1, u2, u3, u4, u5, u6, u7, u8⟩ := vac BR
 go_enter Tryz.func124, Tryz.ntmps124
 go_wp2_with fail
 exact ⟨rfl, roV (⟨r.p, 2, M, 0, h.f, h.a, now + c.t2, true⟩ : Rt), by simp [results, Tryz.results124, go_sem, lostR, u0, u1, u2, u3, u4, u5, u6, u7, u8], rfl, kR⟩
set_option maxRecDepth 100000 in
theorem hr4geA (c : Cf) (A : Option Addr) (n m : Nat) (r : Rt) (h : Hd) (now : Int) (w : World) (hn0 : 0 ≤ now) (hn1 : now ≤ 4611686018427387904) (ht0 : 0 ≤ c.t2) (ht1 : c.t2 ≤ 1000000) (hu0 : 0 ≤ c.t3) (hu1 : c.t3 ≤ 1000000) (hm0 : 1 ≤ h.m) (hm1 : h.m ≤ 16) (M : Int) (hM : h.m + 1 = M) (hM2 : M ≤ 16) (e1 : (r.s == 1) = false) (e2 : (r.s == 2) = false) (e3 : (r.s == 3) = false) (e0 : (r.s == 0) = false) (e4 : (r.s == 4) = true) (el : decide (M < 16) = false) :
  Calls Tryz.prog 124 #[cfV c A n m, roV r, .agg #[.int .i64 h.f, .int .u32 (h.a : Int), .int .i64 h.m], .int .i64 now] w (RRetP r w) := by
 obtain ⟨b, W, X, hb, hW, hs, hX, C0, C1, C2, kX, D0, D1, D2, D3, D4⟩ := hearLay c A n m r h w #[.int .u32 (r.p.a : Int), .int .i64 r.p.l, .int .i64 2, .int .i64 M, .int .i64 0, .int .i64 h.f, .int .u32 (h.a : Int), .int .i64 (now + c.t2), .bool true]
 unfold cfC roC zero9 at hW
 have wc2 := Blk.f C0 rfl
 have wp0 := Blk.f C1 rfl
 have wh0 := Blk.f C2 rfl
 have xc0 := Blk.f D0 rfl
 have xp0 := Blk.f D1 rfl
 have xh0 := Blk.f D2 rfl
 have xn0 := Blk.f (l := [.int .u32 (r.p.a : Int), .int .i64 r.p.l, .int .i64 2, .int .i64 M, .int .i64 0, .int .i64 h.f, .int .u32 (h.a : Int), .int .i64 (now + c.t2), .bool true]) D4 rfl
 have q0 := Blk.f (l := [.int .u32 0, .int .i64 0, .int .i64 0, .int .i64 0, .int .i64 0, .int .i64 0, .int .u32 0, .int .i64 0, .bool false]) D3 rfl
 have z0 := Blk.frozen D3
 obtain ⟨R, hR, BR, kR⟩ := Blk.put9 D3 r kX (by omega)
 simp only [roSet] at hR
 obtain ⟨u0, u1, u2, u3, u4, u5, u6, u7, u8⟩ := vac BR
 go_enter Tryz.func124, Tryz.ntmps124
 go_wp2_with fail
 exact ⟨rfl, roV r, by simp [results, Tryz.results124, go_sem, lostR, u0, u1, u2, u3, u4, u5, u6, u7, u8], rfl, kR⟩
end

end Go.Proofs.YtgopnfacklmkaaaGreatDoor
