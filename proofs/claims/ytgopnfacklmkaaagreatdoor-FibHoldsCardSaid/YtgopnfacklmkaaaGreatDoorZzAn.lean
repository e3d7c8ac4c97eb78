/- Lemmas and contracts for the theorem of this claim: RoY, RoD, RoT. -/
import Derived.Test.YtgopnfacklmkaaaGreatDoorZzAm
import Derived.StillTailTactics
set_option linter.all false
set_option maxHeartbeats 16000000
namespace Go.Proofs.YtgopnfacklmkaaaGreatDoor
section
open Go.RowKit
set_option maxRecDepth 100000 in
theorem hr1B (c : Cf) (A : Option Addr) (n m : Nat) (r : Rt) (h : Hd) (now : Int) (w : World) (hn0 : 0 ≤ now) (hn1 : now ≤ 4611686018427387904) (ht0 : 0 ≤ c.t2) (ht1 : c.t2 ≤ 1000000) (hu0 : 0 ≤ c.t3) (hu1 : c.t3 ≤ 1000000) (hm0 : 1 ≤ h.m) (hm1 : h.m ≤ 16) (hM : 16 < h.m + 1) (e1 : (r.s == 1) = true) :
  Calls Tryz.prog 124 #[cfV c A n m, roV r, .agg #[.int .i64 h.f, .int .u32 (h.a : Int), .int .i64 h.m], .int .i64 now] w (RRetP r w) := by
 obtain ⟨b, W, X, hb, hW, hs, hX, C0, C1, C2, kX, D0, D1, D2, D3, D4⟩ := hearLay c A n m r h w #[.int .u32 (r.p.a : Int), .int .i64 r.p.l, .int .i64 2, .int .i64 16, .int .i64 0, .int .i64 h.f, .int .u32 (h.a : Int), .int .i64 (now + c.t2), .bool true]
 unfold cfC roC zero9 at hW
 have wc2 := Blk.f C0 rfl
 have wp0 := Blk.f C1 rfl
 have wh0 := Blk.f C2 rfl
 have xc0 := Blk.f D0 rfl
 have xp0 := Blk.f D1 rfl
 have xh0 := Blk.f D2 rfl
 have xn0 := Blk.f (l := [.int .u32 (r.p.a : Int), .int .i64 r.p.l, .int .i64 2, .int .i64 16, .int .i64 0, .int .i64 h.f, .int .u32 (h.a : Int), .int .i64 (now + c.t2), .bool true]) D4 rfl
 have q0 := Blk.f (l := [.int .u32 0, .int .i64 0, .int .i64 0, .int .i64 0, .int .i64 0, .int .i64 0, .int .u32 0, .int .i64 0, .bool false]) D3 rfl
 have z0 := Blk.frozen D3
 obtain ⟨R, hR, BR, kR⟩ := Blk.put9 D3 r kX (by omega)
 simp only [roSet] at hR
 obtain ⟨u0, u1, u2, u3, u4, u5, u6, u7, u8⟩ := vae BR
 go_enter Tryz.func124, Tryz.ntmps124
 go_wp2_with fail
 exact ⟨rfl, roV r, by simp [results, Tryz.results124, go_sem, lostR, u0, u1, u2, u3, u4, u5, u6, u7, u8], rfl, kR⟩
set_option maxRecDepth 100000 in
theorem hr2lostB (c : Cf) (A : Option Addr) (n m : Nat) (r : Rt) (h : Hd) (now : Int) (w : World) (hn0 : 0 ≤ now) (hn1 : now ≤ 4611686018427387904) (ht0 : 0 ≤ c.t2) (ht1 : c.t2 ≤ 1000000) (hu0 : 0 ≤ c.t3) (hu1 : c.t3 ≤ 1000000) (hm0 : 1 ≤ h.m) (hm1 : h.m ≤ 16) (hM : 16 < h.m + 1) (e1 : (r.s == 1) = false) (e2 : (r.s == 2) = true) (ef : (h.f == r.f) = true) (ex : ((h.a : Int) == (r.x : Int)) = true) (em : (16 == r.m) = false) :
  Calls Tryz.prog 124 #[cfV c A n m, roV r, .agg #[.int .i64 h.f, .int .u32 (h.a : Int), .int .i64 h.m], .int .i64 now] w (RRetP (lostR c r now) w) := by
 obtain ⟨b, W, X, hb, hW, hs, hX, C0, C1, C2, kX, D0, D1, D2, D3, D4⟩ := hearLay c A n m r h w #[.int .u32 (r.p.a : Int), .int .i64 r.p.l, .int .i64 2, .int .i64 16, .int .i64 0, .int .i64 h.f, .int .u32 (h.a : Int), .int .i64 (now + c.t2), .bool true]
 unfold cfC roC zero9 at hW
 have wc2 := Blk.f C0 rfl
 have wp0 := Blk.f C1 rfl
 have wh0 := Blk.f C2 rfl
 have xc0 := Blk.f D0 rfl
 have xp0 := Blk.f D1 rfl
 have xh0 := Blk.f D2 rfl
 have xn0 := Blk.f (l := [.int .u32 (r.p.a : Int), .int .i64 r.p.l, .int .i64 2, .int .i64 16, .int .i64 0, .int .i64 h.f, .int .u32 (h.a : Int), .int .i64 (now + c.t2), .bool true]) D4 rfl
 go_enter Tryz.func124, Tryz.ntmps124
 go_wp2_with fail
 refine (veU c A n m r now _ hn0 hn1 hu0 hu1).mono ?_
 rintro e Y ⟨rfl, hK⟩
 have kY := kX.trans hK
 have E3 := D3.keep hK
 clear xc0 xp0 xh0 xn0
 have q0 := Blk.f (l := [.int .u32 0, .int .i64 0, .int .i64 0, .int .i64 0, .int .i64 0, .int .i64 0, .int .u32 0, .int .i64 0, .bool false]) E3 rfl
 have z0 := Blk.frozen E3
 obtain ⟨R, hR, BR, kR⟩ := Blk.put9 E3 (lostR c r now) kY (by omega)
 simp only [roSet, lostR] at hR
 obtain ⟨u0, u1, u2, u3, u4, u5, u6, u7, u8⟩ := vae BR
 simp only [lostR] at u0 u1 u2 u3 u4 u5 u6 u7 u8
 simp only [lostR]
 go_wp2_with fail
 exact ⟨rfl, roV (lostR c r now), by simp [results, Tryz.results124, go_sem, lostR, u0, u1, u2, u3, u4, u5, u6, u7, u8], rfl, kR⟩
set_option maxRecDepth 100000 in
theorem hr2gefB (c : Cf) (A : Option Addr) (n m : Nat) (r : Rt) (h : Hd) (now : Int) (w : World) (hn0 : 0 ≤ now) (hn1 : now ≤ 4611686018427387904) (ht0 : 0 ≤ c.t2) (ht1 : c.t2 ≤ 1000000) (hu0 : 0 ≤ c.t3) (hu1 : c.t3 ≤ 1000000) (hm0 : 1 ≤ h.m) (hm1 : h.m ≤ 16) (hM : 16 < h.m + 1) (e1 : (r.s == 1) = false) (e2 : (r.s == 2) = true) (ef : (h.f == r.f) = false) (el : decide (16 < r.m) = false) :
  Calls Tryz.prog 124 #[cfV c A n m, roV r, .agg #[.int .i64 h.f, .int .u32 (h.a : Int), .int .i64 h.m], .int .i64 now] w (RRetP r w) := by
 obtain ⟨b, W, X, hb, hW, hs, hX, C0, C1, C2, kX, D0, D1, D2, D3, D4⟩ := hearLay c A n m r h w #[.int .u32 (r.p.a : Int), .int .i64 r.p.l, .int .i64 2, .int .i64 16, .int .i64 0, .int .i64 h.f, .int .u32 (h.a : Int), .int .i64 (now + c.t2), .bool true]
 unfold cfC roC zero9 at hW
 have wc2 := Blk.f C0 rfl
 have wp0 := Blk.f C1 rfl
 have wh0 := Blk.f C2 rfl
 have xc0 := Blk.f D0 rfl
 have xp0 := Blk.f D1 rfl
 have xh0 := Blk.f D2 rfl
 have xn0 := Blk.f (l := [.int .u32 (r.p.a : Int), .int .i64 r.p.l, .int .i64 2, .int .i64 16, .int .i64 0, .int .i64 h.f, .int .u32 (h.a : Int), .int .i64 (now + c.t2), .bool true]) D4 rfl
 have q0 := Blk.f (l := [.int .u32 0, .int .i64 0, .int .i64 0, .int .i64 0, .int .i64 0, .int .i64 0, .int .u32 0, .int .i64 0, .bool false]) D3 rfl
 have z0 := Blk.frozen D3
 obtain ⟨R, hR, BR, kR⟩ := Blk.put9 D3 r kX (by omega)
 simp only [roSet] at hR
 obtain ⟨u0, u1, u2, u3, u4, u5, u6, u7, u8⟩ := vae BR
 go_enter Tryz.func124, Tryz.ntmps124
 go_wp2_with fail
 exact ⟨rfl, roV r, by simp [results, Tryz.results124, go_sem, lostR, u0, u1, u2, u3, u4, u5, u6, u7, u8], rfl, kR⟩
set_option maxRecDepth 100000 in
theorem hr2gexB (c : Cf) (A : Option Addr) (n m : Nat) (r : Rt) (h : Hd) (now : Int) (w : World) (hn0 : 0 ≤ now) (hn1 : now ≤ 4611686018427387904) (ht0 : 0 ≤ c.t2) (ht1 : c.t2 ≤ 1000000) (hu0 : 0 ≤ c.t3) (hu1 : c.t3 ≤ 1000000) (hm0 : 1 ≤ h.m) (hm1 : h.m ≤ 16) (hM : 16 < h.m + 1) (e1 : (r.s == 1) = false) (e2 : (r.s == 2) = true) (ef : (h.f == r.f) = true) (ex : ((h.a : Int) == (r.x : Int)) = false) (el : decide (16 < r.m) = false) :
  Calls Tryz.prog 124 #[cfV c A n m, roV r, .agg #[.int .i64 h.f, .int .u32 (h.a : Int), .int .i64 h.m], .int .i64 now] w (RRetP r w) := by
 obtain ⟨b, W, X, hb, hW, hs, hX, C0, C1, C2, kX, D0, D1, D2, D3, D4⟩ := hearLay c A n m r h w #[.int .u32 (r.p.a : Int), .int .i64 r.p.l, .int .i64 2, .int .i64 16, .int .i64 0, .int .i64 h.f, .int .u32 (h.a : Int), .int .i64 (now + c.t2), .bool true]
 unfold cfC roC zero9 at hW
 have wc2 := Blk.f C0 rfl
 have wp0 := Blk.f C1 rfl
 have wh0 := Blk.f C2 rfl
 have xc0 := Blk.f D0 rfl
 have xp0 := Blk.f D1 rfl
 have xh0 := Blk.f D2 rfl
 have xn0 := Blk.f (l := [.int .u32 (r.p.a : Int), .int .i64 r.p.l, .int .i64 2, .int .i64 16, .int .i64 0, .int .i64 h.f, .int .u32 (h.a : Int), .int .i64 (now + c.t2), .bool true]) D4 rfl
 have q0 := Blk.f (l := [.int .u32 0, .int .i64 0, .int .i64 0, .int .i64 0, .int .i64 0, .int .i64 0, .int .u32 0, .int .i64 0, .bool false]) D3 rfl
 have z0 := Blk.frozen D3
 obtain ⟨R, hR, BR, kR⟩ := Blk.put9 D3 r kX (by omega)
 simp only [roSet] at hR
 obtain ⟨u0, u1, u2, u3, u4, u5, u6, u7, u8⟩ := vae BR
 go_enter Tryz.func124, Tryz.ntmps124
 go_wp2_with fail
 exact ⟨rfl, roV r, by simp [results, Tryz.results124, go_sem, lostR, u0, u1, u2, u3, u4, u5, u6, u7, u8], rfl, kR⟩
set_option maxRecDepth 100000 in
theorem hr3geB (c : Cf) (A : Option Addr) (n m : Nat) (r : Rt) (h : Hd) (now : Int) (w : World) (hn0 : 0 ≤ now) (hn1 : now ≤ 4611686018427387904) (ht0 : 0 ≤ c.t2) (ht1 : c.t2 ≤ 1000000) (hu0 : 0 ≤ c.t3) (hu1 : c.t3 ≤ 1000000) (hm0 : 1 ≤ h.m) (hm1 : h.m ≤ 16) (hM : 16 < h.m + 1) (e1 : (r.s == 1) = false) (e2 : (r.s == 2) = false) (e3 : (r.s == 3) = true) (el : decide (16 < r.l) = false) :
  Calls Tryz.prog 124 #[cfV c A n m, roV r, .agg #[.int .i64 h.f, .int .u32 (h.a : Int), .int .i64 h.m], .int .i64 now] w (RRetP r w) := by
 obtain ⟨b, W, X, hb, hW, hs, hX, C0, C1, C2, kX, D0, D1, D2, D3, D4⟩ := hearLay c A n m r h w #[.int .u32 (r.p.a : Int), .int .i64 r.p.l, .int .i64 2, .int .i64 16, .int .i64 0, .int .i64 h.f, .int .u32 (h.a : Int), .int .i64 (now + c.t2), .bool true]
 unfold cfC roC zero9 at hW
 have wc2 := Blk.f C0 rfl
 have wp0 := Blk.f C1 rfl
 have wh0 := Blk.f C2 rfl
 have xc0 := Blk.f D0 rfl
 have xp0 := Blk.f D1 rfl
 have xh0 := Blk.f D2 rfl
 have xn0 := Blk.f (l := [.int .u32 (r.p.a : Int), .int .i64 r.p.l, .int .i64 2, .int .i64 16, .int .i64 0, .int .i64 h.f, .int .u32 (h.a : Int), .int .i64 (now + c.t2), .bool true]) D4 rfl
 have q0 := Blk.f (l := [.int .u32 0, .int .i64 0, .int .i64 0, .int .i64 0, .int .i64 0, .int .i64 0, .int .u32 0, .int .i64 0, .bool false]) D3 rfl
 have z0 := Blk.frozen D3
 obtain ⟨R, hR, BR, kR⟩ := Blk.put9 D3 r kX (by omega)
 simp only [roSet] at hR
 obtain ⟨u0, u1, u2, u3, u4, u5, u6, u7, u8⟩ := vae BR
 go_enter Tryz.func124, Tryz.ntmps124
 go_wp2_with fail
 exact ⟨rfl, roV r, by simp [results, Tryz.results124, go_sem, lostR, u0, u1, u2, u3, u4, u5, u6, u7, u8], rfl, kR⟩
set_option maxRecDepth 100000 in
theorem hr0geB (c : Cf) (A : Option Addr) (n m : Nat) (r : Rt) (h : Hd) (now : Int) (w : World) (hn0 : 0 ≤ now) (hn1 : now ≤ 4611686018427387904) (ht0 : 0 ≤ c.t2) (ht1 : c.t2 ≤ 1000000) (hu0 : 0 ≤ c.t3) (hu1 : c.t3 ≤ 1000000) (hm0 : 1 ≤ h.m) (hm1 : h.m ≤ 16) (hM : 16 < h.m + 1) (e1 : (r.s == 1) = false) (e2 : (r.s == 2) = false) (e3 : (r.s == 3) = false) (e0 : (r.s == 0) = true) :
  Calls Tryz.prog 124 #[cfV c A n m, roV r, .agg #[.int .i64 h.f, .int .u32 (h.a : Int), .int .i64 h.m], .int .i64 now] w (RRetP r w) := by
 obtain ⟨b, W, X, hb, hW, hs, hX, C0, C1, C2, kX, D0, D1, D2, D3, D4⟩ := hearLay c A n m r h w #[.int .u32 (r.p.a : Int), .int .i64 r.p.l, .int .i64 2, .int .i64 16, .int .i64 0, .int .i64 h.f, .int .u32 (h.a : Int), .int .i64 (now + c.t2), .bool true]
 unfold cfC roC zero9 at hW
 have wc2 := Blk.f C0 rfl
 have wp0 := Blk.f C1 rfl
 have wh0 := Blk.f C2 rfl
 have xc0 := Blk.f D0 rfl
 have xp0 := Blk.f D1 rfl
 have xh0 := Blk.f D2 rfl
 have xn0 := Blk.f (l := [.int .u32 (r.p.a : Int), .int .i64 r.p.l, .int .i64 2, .int .i64 16, .int .i64 0, .int .i64 h.f, .int .u32 (h.a : Int), .int .i64 (now + c.t2), .bool true]) D4 rfl
 have q0 := Blk.f (l := [.int .u32 0, .int .i64 0, .int .i64 0, .int .i64 0, .int .i64 0, .int .i64 0, .int .u32 0, .int .i64 0, .bool false]) D3 rfl
 have z0 := Blk.frozen D3
 obtain ⟨R, hR, BR, kR⟩ := Blk.put9 D3 r kX (by omega)
 simp only [roSet] at hR
 obtain ⟨u0, u1, u2, u3, u4, u5, u6, u7, u8⟩ := vae BR
 go_enter Tryz.func124, Tryz.ntmps124
 go_wp2_with fail
 exact ⟨rfl, roV r, by simp [results, Tryz.results124, go_sem, lostR, u0, u1, u2, u3, u4, u5, u6, u7, u8], rfl, kR⟩
set_option maxRecDepth 100000 in
theorem hr4geB (c : Cf) (A : Option Addr) (n m : Nat) (r : Rt) (h : Hd) (now : Int) (w : World) (hn0 : 0 ≤ now) (hn1 : now ≤ 4611686018427387904) (ht0 : 0 ≤ c.t2) (ht1 : c.t2 ≤ 1000000) (hu0 : 0 ≤ c.t3) (hu1 : c.t3 ≤ 1000000) (hm0 : 1 ≤ h.m) (hm1 : h.m ≤ 16) (hM : 16 < h.m + 1) (e1 : (r.s == 1) = false) (e2 : (r.s == 2) = false) (e3 : (r.s == 3) = false) (e0 : (r.s == 0) = false) (e4 : (r.s == 4) = true) :
  Calls Tryz.prog 124 #[cfV c A n m, roV r, .agg #[.int .i64 h.f, .int .u32 (h.a : Int), .int .i64 h.m], .int .i64 now] w (RRetP r w) := by
 obtain ⟨b, W, X, hb, hW, hs, hX, C0, C1, C2, kX, D0, D1, D2, D3, D4⟩ := hearLay c A n m r h w #[.int .u32 (r.p.a : Int), .int .i64 r.p.l, .int .i64 2, .int .i64 16, .int .i64 0, .int .i64 h.f, .int .u32 (h.a : Int), .int .i64 (now + c.t2), .bool true]
 unfold cfC roC zero9 at hW
 have wc2 := Blk.f C0 rfl
 have wp0 := Blk.f C1 rfl
 have wh0 := Blk.f C2 rfl
 have xc0 := Blk.f D0 rfl
 have xp0 := Blk.f D1 rfl
 have xh0 := Blk.f D2 rfl
 have xn0 := Blk.f (l := [.int .u32 (r.p.a : Int), .int .i64 r.p.l, .int .i64 2, .int .i64 16, .int .i64 0, .int .i64 h.f, .int .u32 (h.a : Int), .int .i64 (now + c.t2), .bool true]) D4 rfl
 have q0 := Blk.f (l := [.int .u32 0, .int .i64 0, .int .i64 0, .int .i64 0, .int .i64 0, .int .i64 0, .int .u32 0, .int .i64 0, .bool false]) D3 rfl
 have z0 := Blk.frozen D3
 obtain ⟨R, hR, BR, kR⟩ := Blk.put9 D3 r kX (by omega)
 simp only [roSet] at hR
 obtain ⟨u0, u1, u2, u3, u4, u5, u6, u7, u8⟩ := vae BR
 go_enter Tryz.func124, Tryz.ntmps124
 go_wp2_with fail
 exact ⟨rfl, roV r, by simp [results, Tryz.results124, go_sem, lostR, u0, u1, u2, u3, u4, u5, u6, u7, u8], rfl, kR⟩
theorem vjw (e : Int) (w : World) : (Instr.typeAssert (stopRV e) 20 219 true).run Tryz.prog w = .ok (.tuple #[.int .i64 e, .bool true]) w := by kernel_rfl
theorem vjx (w : World) : (Instr.typeAssert .nilIface 20 219 true).run Tryz.prog w = .ok (.tuple #[.int .i64 0, .bool false]) w := by kernel_rfl
def upR (e : Int) : FrameMode := .panicking [{ v := stopRV e, recovered := false }]
def caughtR (e : Int) : FrameMode := .panicking [{ v := stopRV e, recovered := true }]
theorem vhd (e : Int) : recM (upR e) = (stopRV e, caughtR e) := rfl
set_option maxRecDepth 100000 in
theorem vcg (p0 p1 : Nat) (y v0 v1 v2 v3 v4 v5 v6 v7 v8 : Value) (e : Int) (w : World) (h0 : Blk w p0 52 #[v0, v1, v2, v3, v4, v5, v6, v7, v8]) (h1 : Blk w p1 44 #[y]) (n01 : ¬ p0 = p1) :
  CallsD Tryz.prog 120 #[.pointer (some ⟨p0, 0, none⟩), .pointer (some ⟨p1, 0, none⟩)] (upR e) w fun en u' w' =>
   en = .returned (.tuple #[]) ∧ u' = caughtR e ∧ Blk w' p0 52 zero9 ∧ Blk w' p1 44 #[.int .i64 e] ∧ Only [p0, p1] w w' := by
 have c0 := Blk.f (l := [v0, v1, v2, v3, v4, v5, v6, v7, v8]) h0 rfl
 have z0 := Blk.frozen h0
 have d0 : w.cell? ⟨p1, 0, none⟩ = some y := h1.cell 0
 have zd := Blk.frozen h1
 have n10 : ¬ p1 = p0 := fun h => n01 h.symm
 have hty := vjw
 obtain ⟨R, hR, BR, BE, hO⟩ := Blk.putO h0 zeroR h1 n01 (v := .int .i64 e)
 simp only [roSet, noR, zeroR, Int.natCast_zero] at hR
 rw [veT] at BR
 refine vaC _ _ (vhd e) Tryz.func120 rfl rfl rfl ?_
 simp only [Tryz.ntmps120, Act.put, List.size_toArray, List.length_cons, List.length_nil, Nat.reduceAdd, Nat.reduceSub, Array.replicate_succ, Array.replicate_zero, List.push_toArray, List.append_toArray, List.nil_append, List.cons_append]
 go_wp2_with fail
 go_end0
 exact ⟨rfl, trivial, BR, BE, hO⟩
set_option maxRecDepth 100000 in
theorem vhS (p0 p1 : Value) (w : World) :
  CallsD Tryz.prog 120 #[p0, p1] .returning w fun en u' w' => en = .returned (.tuple #[]) ∧ u' = .returning ∧ w' = w := by
 have hty := vjx
 refine vaC _ _ vdD Tryz.func120 rfl rfl rfl ?_
 simp only [Tryz.ntmps120, Act.put, List.size_toArray, List.length_cons, List.length_nil, Nat.reduceAdd, Nat.reduceSub, Array.replicate_succ, Array.replicate_zero, List.push_toArray, List.append_toArray, List.nil_append, List.cons_append]
 go_wp2_with fail
 go_end0
 exact ⟨rfl, trivial, rfl⟩
set_option maxRecDepth 100000 in
theorem vev (p0 p1 : Nat) (y v0 v1 v2 v3 v4 v5 v6 v7 v8 : Value) (e : Int) (w : World) (h0 : Blk w p0 52 #[v0, v1, v2, v3, v4, v5, v6, v7, v8]) (h1 : Blk w p1 44 #[y]) (n01 : ¬ p0 = p1) :
  CallsD Tryz.prog 144 #[.pointer (some ⟨p0, 0, none⟩), .pointer (some ⟨p1, 0, none⟩)] (upR e) w fun en u' w' =>
   en = .returned (.tuple #[]) ∧ u' = caughtR e ∧ Blk w' p0 52 zero9 ∧ Blk w' p1 44 #[.int .i64 e] ∧ Only [p0, p1] w w' := by
 have c0 := Blk.f (l := [v0, v1, v2, v3, v4, v5, v6, v7, v8]) h0 rfl
 have z0 := Blk.frozen h0
 have d0 : w.cell? ⟨p1, 0, none⟩ = some y := h1.cell 0
 have zd := Blk.frozen h1
 have n10 : ¬ p1 = p0 := fun h => n01 h.symm
 have hty := vjw
 obtain ⟨R, hR, BR, BE, hO⟩ := Blk.putO h0 zeroR h1 n01 (v := .int .i64 e)
 simp only [roSet, noR, zeroR, Int.natCast_zero] at hR
 rw [veT] at BR
 refine vaC _ _ (vhd e) Tryz.func144 rfl rfl rfl ?_
 simp only [Tryz.ntmps144, Act.put, List.size_toArray, List.length_cons, List.length_nil, Nat.reduceAdd, Nat.reduceSub, Array.replicate_succ, Array.replicate_zero, List.push_toArray, List.append_toArray, List.nil_append, List.cons_append]
 go_wp2_with fail
 go_end0
 exact ⟨rfl, trivial, BR, BE, hO⟩
set_option maxRecDepth 100000 in
theorem vbL (p0 p1 : Value) (w : World) :
  CallsD Tryz.prog 144 #[p0, p1] .returning w fun en u' w' => en = .returned (.tuple #[]) ∧ u' = .returning ∧ w' = w := by
 have hty := vjx
 refine vaC _ _ vdD Tryz.func144 rfl rfl rfl ?_
 simp only [Tryz.ntmps144, Act.put, List.size_toArray, List.length_cons, List.length_nil, Nat.reduceAdd, Nat.reduceSub, Array.replicate_succ, Array.replicate_zero, List.push_toArray, List.append_toArray, List.nil_append, List.cons_append]
 go_wp2_with fail
 go_end0
 exact ⟨rfl, trivial, rfl⟩
theorem beqF {a b : Int} (h : ¬ a = b) : (a == b) = false := by simp [h]
theorem beqT {a b : Int} (h : a = b) : (a == b) = true := by simp [h]
theorem vlX (c : Cf) (A : Option Addr) (n m : Nat) (r : Rt) (h : Hd) (now : Int) (w : World) (hc : okCf c = true) (hr : okR r = true) (hh : okHd h = true) (hn : okNow now = true) :
  Calls Tryz.prog 124 #[cfV c A n m, roV r, .agg #[.int .i64 h.f, .int .u32 (h.a : Int), .int .i64 h.m], .int .i64 now] w (RRetP (hearR c r h now) w) := by
 have t2 := vbJ hc 2 (by omega)
 have t3 := vbJ hc 3 (by omega)
 simp only [leastS, Cf.t] at t2 t3
 rw [okNow, vaa] at hn
 rw [okHd, Bool.and_eq_true, vaa] at hh
 have hr' := hr
 rw [vaq] at hr'
 have hn1 : now ≤ 4611686018427387904 := by omega
 have ht0 : 0 ≤ c.t2 := by omega
 have es : (h.f = r.f ∧ h.a = r.x) ∨ (¬ h.f = r.f) ∨ (h.f = r.f ∧ ¬ (h.a : Int) = (r.x : Int)) := by
  by_cases h1 : h.f = r.f
  ·by_cases h2 : h.a = r.x
   ·exact .inl ⟨h1, h2⟩
   ·exact .inr (.inr ⟨h1, by omega⟩)
  ·exact .inr (.inl h1)
 by_cases hm : 16 < h.m + 1
 ·have hM : min (h.m + 1) 16 = 16 := by omega
  rcases vbh hr'.2 with hs | hs | hs | hs | hs
  ·have e : hearR c r h now = r := by unfold hearR; rw [if_neg (by omega), if_neg (by omega), if_neg (by omega), hM, if_neg (by omega)]
   rw [e]
   exact hr0geB c A n m r h now w hn.1 hn1 ht0 t2.2 t3.1 t3.2 hh.2.1 hh.2.2 hm (beqF (by omega)) (beqF (by omega)) (beqF (by omega)) (beqT hs)
  ·have e : hearR c r h now = r := by unfold hearR; rw [if_pos hs]
   rw [e]
   exact hr1B c A n m r h now w hn.1 hn1 ht0 t2.2 t3.1 t3.2 hh.2.1 hh.2.2 hm (beqT hs)
  ·have h2 := (vbS hs).1 hr'.2
   rcases es with ⟨e1, e2⟩ | e1 | ⟨e1, e2⟩
   ·have e : hearR c r h now = lostR c r now := by unfold hearR; rw [if_neg (by omega), if_pos hs, if_pos ⟨e1, e2⟩, hM, if_neg (by omega), if_pos rfl]
    rw [e]
    exact hr2lostB c A n m r h now w hn.1 hn1 ht0 t2.2 t3.1 t3.2 hh.2.1 hh.2.2 hm (beqF (by omega)) (beqT hs) (beqT e1) (beqT (by omega)) (beqF (by omega))
   ·have e : hearR c r h now = r := by unfold hearR; rw [if_neg (by omega), if_pos hs, if_neg (fun z => e1 z.1), hM, if_neg (by omega)]
    rw [e]
    exact hr2gefB c A n m r h now w hn.1 hn1 ht0 t2.2 t3.1 t3.2 hh.2.1 hh.2.2 hm (beqF (by omega)) (beqT hs) (beqF e1) (decide_eq_false (by omega))
   ·have e : hearR c r h now = r := by unfold hearR; rw [if_neg (by omega), if_pos hs, if_neg (fun z => e2 (by rw [z.2])), hM, if_neg (by omega)]
    rw [e]
    exact hr2gexB c A n m r h now w hn.1 hn1 ht0 t2.2 t3.1 t3.2 hh.2.1 hh.2.2 hm (beqF (by omega)) (beqT hs) (beqT e1) (beqF e2) (decide_eq_false (by omega))
  ·have h3 := (vcv hs).1 hr'.2
   have e : hearR c r h now = r := by unfold hearR; rw [if_neg (by omega), if_neg (by omega), if_pos hs, hM, if_neg (by omega)]
   rw [e]
   exact hr3geB c A n m r h now w hn.1 hn1 ht0 t2.2 t3.1 t3.2 hh.2.1 hh.2.2 hm (beqF (by omega)) (beqF (by omega)) (beqT hs) (decide_eq_false (by omega))
  ·have e : hearR c r h now = r := by unfold hearR; rw [if_neg (by omega), if_neg (by omega), if_neg (by omega), hM, if_neg (by omega)]
   rw [e]
   exact hr4geB c A n m r h now w hn.1 hn1 ht0 t2.2 t3.1 t3.2 hh.2.1 hh.2.2 hm (beqF (by omega)) (beqF (by omega)) (beqF (by omega)) (beqF (by omega)) (beqT hs)
 ·have hM : min (h.m + 1) 16 = h.m + 1 := by omega
  have hN : newR c r h now = (⟨r.p, 2, h.m + 1, 0, h.f, h.a, now + c.t2, true⟩ : Rt) := by unfold newR; rw [hM]
  have hm2 : h.m + 1 ≤ 16 := by omega
  rcases vbh hr'.2 with hs | hs | hs | hs | hs
  ·by_cases hl : h.m + 1 < 16
   ·have e : hearR c r h now = (⟨r.p, 2, h.m + 1, 0, h.f, h.a, now + c.t2, true⟩ : Rt) := by unfold hearR; rw [if_neg (by omega), if_neg (by omega), if_neg (by omega), hM, if_pos hl, hN]
    rw [e]
    exact hr0ltA c A n m r h now w hn.1 hn1 ht0 t2.2 t3.1 t3.2 hh.2.1 hh.2.2 _ rfl hm2 (beqF (by omega)) (beqF (by omega)) (beqF (by omega)) (beqT hs) (decide_eq_true hl)
   ·have e : hearR c r h now = r := by unfold hearR; rw [if_neg (by omega), if_neg (by omega), if_neg (by omega), hM, if_neg hl]
    rw [e]
    exact hr0geA c A n m r h now w hn.1 hn1 ht0 t2.2 t3.1 t3.2 hh.2.1 hh.2.2 _ rfl hm2 (beqF (by omega)) (beqF (by omega)) (beqF (by omega)) (beqT hs) (decide_eq_false hl)
  ·have e : hearR c r h now = r := by unfold hearR; rw [if_pos hs]
   rw [e]
   exact hr1A c A n m r h now w hn.1 hn1 ht0 t2.2 t3.1 t3.2 hh.2.1 hh.2.2 _ rfl hm2 (beqT hs)
  ·rcases es with ⟨e1, e2⟩ | e1 | ⟨e1, e2⟩
   ·by_cases hq : h.m + 1 = r.m
    ·have e : hearR c r h now = (⟨r.p, r.s, r.m, r.l, r.f, r.x, now + c.t2, r.c⟩ : Rt) := by unfold hearR; rw [if_neg (by omega), if_pos hs, if_pos ⟨e1, e2⟩, hM, if_pos hq, hs]
     rw [e]
     exact hr2dueA c A n m r h now w hn.1 hn1 ht0 t2.2 t3.1 t3.2 hh.2.1 hh.2.2 _ rfl hm2 (beqF (by omega)) (beqT hs) (beqT e1) (beqT (by omega)) (beqT hq)
    ·by_cases hz : h.m + 1 = 16
     ·have e : hearR c r h now = lostR c r now := by unfold hearR; rw [if_neg (by omega), if_pos hs, if_pos ⟨e1, e2⟩, hM, if_neg hq, if_pos hz]
      rw [e]
      exact hr2lostA c A n m r h now w hn.1 hn1 ht0 t2.2 t3.1 t3.2 hh.2.1 hh.2.2 _ rfl hm2 (beqF (by omega)) (beqT hs) (beqT e1) (beqT (by omega)) (beqF hq) (beqT hz)
     ·have e : hearR c r h now = (⟨r.p, 2, h.m + 1, 0, h.f, h.a, now + c.t2, true⟩ : Rt) := by unfold hearR; rw [if_neg (by omega), if_pos hs, if_pos ⟨e1, e2⟩, hM, if_neg hq, if_neg hz, hN]
      rw [e]
      exact hr2newA c A n m r h now w hn.1 hn1 ht0 t2.2 t3.1 t3.2 hh.2.1 hh.2.2 _ rfl hm2 (beqF (by omega)) (beqT hs) (beqT e1) (beqT (by omega)) (beqF hq) (beqF hz)
   ·by_cases hl : h.m + 1 < r.m
    ·have e : hearR c r h now = (⟨r.p, 2, h.m + 1, 0, h.f, h.a, now + c.t2, true⟩ : Rt) := by unfold hearR; rw [if_neg (by omega), if_pos hs, if_neg (fun z => e1 z.1), hM, if_pos hl, hN]
     rw [e]
     exact hr2ltfA c A n m r h now w hn.1 hn1 ht0 t2.2 t3.1 t3.2 hh.2.1 hh.2.2 _ rfl hm2 (beqF (by omega)) (beqT hs) (beqF e1) (decide_eq_true hl)
    ·have e : hearR c r h now = r := by unfold hearR; rw [if_neg (by omega), if_pos hs, if_neg (fun z => e1 z.1), hM, if_neg hl]
     rw [e]
     exact hr2gefA c A n m r h now w hn.1 hn1 ht0 t2.2 t3.1 t3.2 hh.2.1 hh.2.2 _ rfl hm2 (beqF (by omega)) (beqT hs) (beqF e1) (decide_eq_false hl)
   ·by_cases hl : h.m + 1 < r.m
    ·have e : hearR c r h now = (⟨r.p, 2, h.m + 1, 0, h.f, h.a, now + c.t2, true⟩ : Rt) := by unfold hearR; rw [if_neg (by omega), if_pos hs, if_neg (fun z => e2 (by rw [z.2])), hM, if_pos hl, hN]
     rw [e]
     exact hr2ltxA c A n m r h now w hn.1 hn1 ht0 t2.2 t3.1 t3.2 hh.2.1 hh.2.2 _ rfl hm2 (beqF (by omega)) (beqT hs) (beqT e1) (beqF e2) (decide_eq_true hl)
    ·have e : hearR c r h now = r := by unfold hearR; rw [if_neg (by omega), if_pos hs, if_neg (fun z => e2 (by rw [z.2])), hM, if_neg hl]
     rw [e]
     exact hr2gexA c A n m r h now w hn.1 hn1 ht0 t2.2 t3.1 t3.2 hh.2.1 hh.2.2 _ rfl hm2 (beqF (by omega)) (beqT hs) (beqT e1) (beqF e2) (decide_eq_false hl)
  ·by_cases hl : h.m + 1 < r.l
   ·have e : hearR c r h now = (⟨r.p, 2, h.m + 1, 0, h.f, h.a, now + c.t2, true⟩ : Rt) := by unfold hearR; rw [if_neg (by omega), if_neg (by omega), if_pos hs, hM, if_pos hl, hN]
    rw [e]
    exact hr3ltA c A n m r h now w hn.1 hn1 ht0 t2.2 t3.1 t3.2 hh.2.1 hh.2.2 _ rfl hm2 (beqF (by omega)) (beqF (by omega)) (beqT hs) (decide_eq_true hl)
   ·have e : hearR c r h now = r := by unfold hearR; rw [if_neg (by omega), if_neg (by omega), if_pos hs, hM, if_neg hl]
    rw [e]
    exact hr3geA c A n m r h now w hn.1 hn1 ht0 t2.2 t3.1 t3.2 hh.2.1 hh.2.2 _ rfl hm2 (beqF (by omega)) (beqF (by omega)) (beqT hs) (decide_eq_false hl)
  ·by_cases hl : h.m + 1 < 16
   ·have e : hearR c r h now = (⟨r.p, 2, h.m + 1, 0, h.f, h.a, now + c.t2, true⟩ : Rt) := by unfold hearR; rw [if_neg (by omega), if_neg (by omega), if_neg (by omega), hM, if_pos hl, hN]
    rw [e]
    exact hr4ltA c A n m r h now w hn.1 hn1 ht0 t2.2 t3.1 t3.2 hh.2.1 hh.2.2 _ rfl hm2 (beqF (by omega)) (beqF (by omega)) (beqF (by omega)) (beqF (by omega)) (beqT hs) (decide_eq_true hl)
   ·have e : hearR c r h now = r := by unfold hearR; rw [if_neg (by omega), if_neg (by omega), if_neg (by omega), hM, if_neg hl]
    rw [e]
    exact hr4geA c A n m r h now w hn.1 hn1 ht0 t2.2 t3.1 t3.2 hh.2.1 hh.2.2 _ rfl hm2 (beqF (by omega)) (beqF (by omega)) (beqF (by omega)) (beqF (by omega)) (beqT hs) (decide_eq_false hl)
def RTellP (n : Int) (x : Rt) (w : World) (e : Ending) (w' : World) : Prop := e = .returned (.tuple #[roV (if n = 0 then x else zeroR), .int .i64 n]) ∧ Kp w w'
theorem RTellP.no {n k : Int} {x : Rt} {w w' : World} (h : n = k) (hk : k ≠ 0) (K : Kp w w') : RTellP n x w (.returned (.tuple #[roV zeroR, .int .i64 k])) w' := by subst h; exact ⟨by rw [if_neg hk], K⟩
theorem RTellP.yes {n : Int} {x : Rt} {w w' : World} (h : n = 0) (K : Kp w w') : RTellP n x w (.returned (.tuple #[roV x, .int .i64 0])) w' := by subst h; exact ⟨by rw [if_pos rfl], K⟩
end

end Go.Proofs.YtgopnfacklmkaaaGreatDoor
