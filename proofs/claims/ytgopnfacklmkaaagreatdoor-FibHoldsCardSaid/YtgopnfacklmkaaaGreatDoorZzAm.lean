/- Lemmas and contracts for the theorem of this claim: RoB, RoC, RoX. -/
import Derived.Test.YtgopnfacklmkaaaGreatDoorZzAl
import Derived.BigQuiet
set_option linter.all false
set_option maxHeartbeats 16000000
namespace Go.Proofs.YtgopnfacklmkaaaGreatDoor
section
open Go.RowKit
def RRetP (x : Rt) (w : World) (e : Ending) (w' : World) : Prop := e = .returned (roV x) ∧ Kp w w'
def timedB (r : Rt) : Bool := (r.s == 2) || ((r.s == 3) || (r.s == 4))
set_option maxRecDepth 100000 in
theorem vjv (r : Rt) (w : World) : Calls Tryz.prog 145 #[roV r] w fun e w' => e = .returned (.bool (timedB r)) ∧ Kp w w' := by
 obtain ⟨b, hb⟩ : ∃ b, w.heap.size = b := ⟨_, rfl⟩
 obtain ⟨W, hW, kW, B0⟩ := Blk.al1 hb (roC r) 255
 have c2 := Blk.f B0 rfl
 unfold roC at hW
 cases h2 : (r.s == 2) with
 | true =>
  have H := Lib.hid (show timedB r = true by unfold timedB; rw [h2]; rfl)
  go_enter Tryz.func145, Tryz.ntmps145
  go_wp2_with fail
  go_ret
  exact ⟨by rw [H.out]; rfl, kW⟩
 | false =>
  cases h3 : (r.s == 3) with
  | true =>
   have H := Lib.hid (show timedB r = true by unfold timedB; rw [h2, h3]; rfl)
   go_enter Tryz.func145, Tryz.ntmps145
   go_wp2_with fail
   go_ret
   exact ⟨by rw [H.out]; rfl, kW⟩
  | false =>
   cases h4 : (r.s == 4) with
   | true =>
    have H := Lib.hid (show timedB r = true by unfold timedB; rw [h2, h3, h4]; rfl)
    go_enter Tryz.func145, Tryz.ntmps145
    go_wp2_with fail
    go_ret
    exact ⟨by rw [H.out]; rfl, kW⟩
   | false =>
    have H := Lib.hid (show timedB r = false by unfold timedB; rw [h2, h3, h4]; rfl)
    go_enter Tryz.func145, Tryz.ntmps145
    go_wp2_with fail
    go_ret
    exact ⟨by rw [H.out]; rfl, kW⟩
set_option maxRecDepth 100000 in
theorem veU (c : Cf) (A : Option Addr) (n m : Nat) (r : Rt) (now : Int) (w : World) (hn0 : 0 ≤ now) (hn1 : now ≤ 4611686018427387904) (ht0 : 0 ≤ c.t3) (ht1 : c.t3 ≤ 1000000) : Calls Tryz.prog 146 #[cfV c A n m, roV r, .int .i64 now] w fun e w' => e = .returned (roV (lostR c r now)) ∧ Kp w w' := by
 obtain ⟨b, hb⟩ : ∃ b, w.heap.size = b := ⟨_, rfl⟩
 obtain ⟨W, hW, kW, B0, B1, B2⟩ := Blk.al3 hb (cfC c A n m) 49 (roC r) 52 zero9 52
 unfold cfC roC zero9 at hW
 have hlt := B2.lt
 have c3 := Blk.f B0 rfl
 have p0 := Blk.f B1 rfl
 have y0 := Blk.frozen B1
 obtain ⟨W5, hW5, B5, B6, k5⟩ : ∃ W5, (((((W.setCell ⟨b + 1, 2, none⟩ (.int .i64 3)).setCell ⟨b + 1, 4, none⟩ (.int .i64 r.m)).setCell ⟨b + 1, 3, none⟩ (.int .i64 16)).setCell ⟨b + 1, 7, none⟩ (.int .i64 (now + c.t3))).setCell ⟨b + 1, 8, none⟩ (.bool true)) = W5 ∧ Blk W5 (b + 1) 52 #[.int .u32 (r.p.a : Int), .int .i64 r.p.l, .int .i64 3, .int .i64 16, .int .i64 r.m, .int .i64 r.f, .int .u32 (r.x : Int), .int .i64 (now + c.t3), .bool true] ∧ Blk W5 (b + 1 + 1) 52 zero9 ∧ Kp w W5 := ⟨_, rfl, by have H := (((((B1.set_ 2 (.int .i64 3)).set_ 4 (.int .i64 r.m)).set_ 3 (.int .i64 16)).set_ 7 (.int .i64 (now + c.t3))).set_ 8 (.bool true)); simp only [roC, List.setIfInBounds_toArray, List.set_cons_zero, List.set_cons_succ] at H; exact H, (((((B2.far (p := ⟨b + 1, 2, none⟩) (by show b + 1 + 1 ≠ b + 1; omega) (.int .i64 3)).far (p := ⟨b + 1, 4, none⟩) (by show b + 1 + 1 ≠ b + 1; omega) (.int .i64 r.m)).far (p := ⟨b + 1, 3, none⟩) (by show b + 1 + 1 ≠ b + 1; omega) (.int .i64 16)).far (p := ⟨b + 1, 7, none⟩) (by show b + 1 + 1 ≠ b + 1; omega) (.int .i64 (now + c.t3))).far (p := ⟨b + 1, 8, none⟩) (by show b + 1 + 1 ≠ b + 1; omega) (.bool true)), (((((kW.setCell (p := ⟨b + 1, 2, none⟩) (by show w.heap.size ≤ b + 1; omega) (.int .i64 3)).setCell (p := ⟨b + 1, 4, none⟩) (by show w.heap.size ≤ b + 1; omega) (.int .i64 r.m)).setCell (p := ⟨b + 1, 3, none⟩) (by show w.heap.size ≤ b + 1; omega) (.int .i64 16)).setCell (p := ⟨b + 1, 7, none⟩) (by show w.heap.size ≤ b + 1; omega) (.int .i64 (now + c.t3))).setCell (p := ⟨b + 1, 8, none⟩) (by show w.heap.size ≤ b + 1; omega) (.bool true))⟩
 have s0 := Blk.f (l := [.int .u32 (r.p.a : Int), .int .i64 r.p.l, .int .i64 3, .int .i64 16, .int .i64 r.m, .int .i64 r.f, .int .u32 (r.x : Int), .int .i64 (now + c.t3), .bool true]) B5 rfl
 have q0 := Blk.f (l := [.int .u32 0, .int .i64 0, .int .i64 0, .int .i64 0, .int .i64 0, .int .i64 0, .int .u32 0, .int .i64 0, .bool false]) B6 rfl
 have z0 := Blk.frozen B6
 obtain ⟨W3, hW3, B7, k3⟩ : ∃ W3, roSet W5 (b + 1 + 1) (lostR c r now) = W3 ∧ Blk W3 (b + 1 + 1) 52 (roC (lostR c r now)) ∧ Kp w W3 := ⟨_, rfl, Blk.putRo B6 _, k5.putRo (by omega) _⟩
 obtain ⟨u0, u1, u2, u3, u4, u5, u6, u7, u8⟩ := vae B7
 simp only [roSet, lostR] at hW3
 simp only [lostR] at u0 u1 u2 u3 u4 u5 u6 u7 u8
 go_enter Tryz.func146, Tryz.ntmps146
 go_wp2_with fail
 exact ⟨rfl, roV (lostR c r now), by simp [results, Tryz.results146, go_sem, lostR, u0, u1, u2, u3, u4, u5, u6, u7, u8], rfl, k3⟩
abbrev stopRV (e : Int) : Value := .iface 219 (.int .i64 e)
abbrev stopR (e : Int) : Ending := .panicked [{ v := stopRV e, recovered := false }]
def yesP (b : Bool) (n : Int) (w : World) (e : Ending) (w' : World) : Prop := (b = true → e = .returned (.tuple #[])) ∧ (b = false → e = stopR n) ∧ Kp w w'
theorem yesP.no {b : Bool} {n : Int} {w w' : World} (h : b = false) (k : Kp w w') : yesP b n w (stopR n) w' := ⟨fun e => (by rw [h] at e; cases e), fun _ => rfl, k⟩
theorem yesP.yes {b : Bool} {n : Int} {w w' : World} (h : b = true) (k : Kp w w') : yesP b n w (.returned (.tuple #[])) w' := ⟨fun _ => rfl, fun e => (by rw [h] at e; cases e), k⟩
set_option maxRecDepth 100000 in
theorem vdH (now : Int) (w : World) : Calls Tryz.prog 123 #[.int .i64 now] w (yesP (okNow now) 170 w) := by
 have kW := (Kp.refl w).alloc (.cells #[.int .i64 now] 2)
 go_enter Tryz.func123, Tryz.ntmps123
 go_wp2_with fail
 refine (vcY 0 4611686018426387904 now _ _ (Blk.new _ _ _)).mono ?_
 rintro e w1 ⟨rfl, rfl⟩
 cases h : withB 0 4611686018426387904 now with
 | true =>
  have H := Lib.hid (show okNow now = true from h)
  go_wp2_with fail
  go_end0
  exact yesP.yes H.out kW
 | false =>
  have H := Lib.hid (show okNow now = false from h)
  go_wp2_with fail
  exact ⟨rfl, yesP.no H.out kW⟩
set_option maxRecDepth 100000 in
theorem veV (h : Hd) (w : World) (ha : h.a < 4294967296) : Calls Tryz.prog 122 #[.agg #[.int .i64 h.f, .int .u32 (h.a : Int), .int .i64 h.m]] w (yesP (okHd h) 2 w) := by
 obtain ⟨b, hb⟩ : ∃ b, w.heap.size = b := ⟨_, rfl⟩
 obtain ⟨W, hW, kW, B0⟩ := Blk.al1 hb #[.int .i64 h.f, .int .u32 (h.a : Int), .int .i64 h.m] 57
 have c0 := Blk.f B0 rfl
 go_enter Tryz.func122, Tryz.ntmps122
 go_wp2_with fail
 refine (vdv h.f h.a _ ha).mono ?_
 rintro e w1 ⟨rfl, K1⟩
 have B1 := B0.keep K1
 have k1 := kW.trans K1
 have c2 := Blk.f B1 rfl
 clear c0 hW
 cases h1 : mayB h.f h.a with
 | false =>
  have H := Lib.hid (show okHd h = false by unfold okHd; rw [h1]; rfl)
  go_wp2_with fail
  exact ⟨rfl, yesP.no H.out k1⟩
 | true =>
  go_wp2_with fail
  refine (vbP 1 16 h.m _ _ (Blk.new _ _ _)).mono ?_
  rintro e w2 ⟨rfl, rfl⟩
  have k2 := k1.alloc (.cells #[.int .i64 h.m] 3)
  cases h2 : withB 1 16 h.m with
  | true =>
   have H := Lib.hid (show okHd h = true by unfold okHd; rw [h1, h2]; rfl)
   go_wp2_with fail
   go_end0
   exact yesP.yes H.out k2
  | false =>
   have H := Lib.hid (show okHd h = false by unfold okHd; rw [h1, h2]; rfl)
   go_wp2_with fail
   exact ⟨rfl, yesP.no H.out k2⟩
def bothB (c : Cf) (r : Rt) : Bool := okCf c && okR r
set_option maxRecDepth 100000 in
theorem vcZ (c : Cf) (A : Option Addr) (m : Nat) (r : Rt) (w : World) (hS : SlPI w A m c.own) (hC : CapAt w) (ha : ∀ k (hk : k < c.own.length), c.own[k].a < 4294967296) (hp : r.p.a < 4294967296) (hx : r.x < 4294967296) : Calls Tryz.prog 121 #[cfV c A c.own.length m, roV r] w (yesP (bothB c r) 2 w) := by
 obtain ⟨b, hb⟩ : ∃ b, w.heap.size = b := ⟨_, rfl⟩
 obtain ⟨W, hW, kW, B0, B1⟩ := Blk.al2 hb (cfC c A c.own.length m) 49 (roC r) 52
 unfold cfC roC at hW
 have c0 := Blk.f B0 rfl
 have hS := hS.keep kW
 go_enter Tryz.func121, Tryz.ntmps121
 go_wp2_with fail
 refine (vet c A m _ hS.le hS.rd (hC.keep kW) ha).mono ?_
 rintro e w1 ⟨rfl, K1⟩
 have B2 := B1.keep K1
 have k1 := kW.trans K1
 clear hW c0
 have p0 := Blk.f B2 rfl
 cases h1 : okCf c with
 | false =>
  rw [show checkC c = 2 by unfold checkC; rw [h1]; rfl]
  have H := Lib.hid (show bothB c r = false by unfold bothB; rw [h1]; rfl)
  go_wp2_with fail
  exact ⟨rfl, yesP.no H.out k1⟩
 | true =>
  rw [show checkC c = 0 by unfold checkC; rw [h1]; rfl]
  go_wp2_with fail
  refine (vbo r _ hp hx).mono ?_
  rintro e w2 ⟨rfl, K2⟩
  have k2 := k1.trans K2
  cases h2 : okR r with
  | true =>
   rw [show checkR r = 0 by rw [vdC, h2]; rfl]
   have H := Lib.hid (show bothB c r = true by unfold bothB; rw [h1, h2]; rfl)
   go_wp2_with fail
   go_end0
   exact yesP.yes H.out k2
  | false =>
   rw [show checkR r = 2 by rw [vdC, h2]; rfl]
   have H := Lib.hid (show bothB c r = false by unfold bothB; rw [h1, h2]; rfl)
   go_wp2_with fail
   exact ⟨rfl, yesP.no H.out k2⟩
theorem hearLay (c : Cf) (A : Option Addr) (n m : Nat) (r : Rt) (h : Hd) (w : World) (V : Array Value) : ∃ b W X, w.heap.size = b ∧ (((w.alloc (.cells (cfC c A n m) 49)).alloc (.cells (roC r) 52)).alloc (.cells #[.int .i64 h.f, .int .u32 (h.a : Int), .int .i64 h.m] 57)).alloc (.cells zero9 52) = W ∧ W.heap.size = b + 1 + 1 + 1 + 1 ∧ W.alloc (.cells V 52) = X ∧ Blk W b 49 (cfC c A n m) ∧ Blk W (b + 1) 52 (roC r) ∧ Blk W (b + 1 + 1) 57 #[.int .i64 h.f, .int .u32 (h.a : Int), .int .i64 h.m] ∧ Kp w X ∧ Blk X b 49 (cfC c A n m) ∧ Blk X (b + 1) 52 (roC r) ∧ Blk X (b + 1 + 1) 57 #[.int .i64 h.f, .int .u32 (h.a : Int), .int .i64 h.m] ∧ Blk X (b + 1 + 1 + 1) 52 zero9 ∧ Blk X (b + 1 + 1 + 1 + 1) 52 V := by
 obtain ⟨W, hW, k, B0, B1, B2, B3⟩ := Blk.al4 (w := w) rfl (cfC c A n m) 49 (roC r) 52 #[.int .i64 h.f, .int .u32 (h.a : Int), .int .i64 h.m] 57 zero9 52
 have hs : W.heap.size = w.heap.size + 1 + 1 + 1 + 1 := by rw [← hW]; simp
 obtain ⟨X, hX, k2, D⟩ := Blk.al1 hs V 52
 exact ⟨_, W, X, rfl, hW, hs, hX, B0, B1, B2, k.trans k2, B0.keep k2, B1.keep k2, B2.keep k2, B3.keep k2, D⟩
set_option maxRecDepth 100000 in
theorem hr1A (c : Cf) (A : Option Addr) (n m : Nat) (r : Rt) (h : Hd) (now : Int) (w : World) (hn0 : 0 ≤ now) (hn1 : now ≤ 4611686018427387904) (ht0 : 0 ≤ c.t2) (ht1 : c.t2 ≤ 1000000) (hu0 : 0 ≤ c.t3) (hu1 : c.t3 ≤ 1000000) (hm0 : 1 ≤ h.m) (hm1 : h.m ≤ 16) (M : Int) (hM : h.m + 1 = M) (hM2 : M ≤ 16) (e1 : (r.s == 1) = true) :
  Calls Tryz.prog 124 #[cfV c A n m, roV r, .agg #[.int .i64 h.f, .int .u32 (h.a : Int), .int .i64 h.m], .int .i64 now] w (RRetP r w) := by
 obtain ⟨b, W, X, hb, hW, hs, hX, C0, C1, C2, kX, D0, D1, D2, D3, D4⟩ := hearLay c A n m r h w #[.int .u32 (r.p.a : Int), .int .i64 r.p.l, .int .i64 2, .int .i64 M, .int .i64 0, .int .i64 h.f, .int .u32 (h.a : Int), .int .i64 (now + c.t2), .bool true]
 unfold cfC roC zero9 at hW
 have wc2 := Blk.f C0 rfl
 have wp0 := Blk.f C1 rfl
 have wh0 := Blk.f C2 rfl
 have xc0 := Blk.f D0 rfl
 have xp0 := Blk.f D1 rfl
 have xh0 := Blk.f D2 rfl
 have xn0 := Blk.f (l := [.int .u32 (r.p.a : Int), .int .i64 r.p.l, .int .i64 2, .int .i64 M, .int .i64 0, .int .i64 h.f, .int .u32 (h.a : Int), .int .i64 (now + c.t2), .bool true]) D4 rfl
 have q0 := Blk.f (l := [.int .u32 0, .int .i64 0, .int .i64 0, .int .i64 0, .int .i64 0, .int .i64 0, .int .u32 0, .int .i64 0, .bool false]) D3 rfl
 have z0 := Blk.frozen D3
 obtain ⟨R, hR, BR, kR⟩ := Blk.put9 D3 r kX (by omega)
 simp only [roSet] at hR
 obtain ⟨u0, u1, u2, u3, u4, u5, u6, u7, u8⟩ := vae BR
 go_enter Tryz.func124, Tryz.ntmps124
 go_wp2_with fail
 exact ⟨rfl, roV r, by simp [results, Tryz.results124, go_sem, lostR, u0, u1, u2, u3, u4, u5, u6, u7, u8], rfl, kR⟩
set_option maxRecDepth 100000 in
theorem hr2dueA (c : Cf) (A : Option Addr) (n m : Nat) (r : Rt) (h : Hd) (now : Int) (w : World) (hn0 : 0 ≤ now) (hn1 : now ≤ 4611686018427387904) (ht0 : 0 ≤ c.t2) (ht1 : c.t2 ≤ 1000000) (hu0 : 0 ≤ c.t3) (hu1 : c.t3 ≤ 1000000) (hm0 : 1 ≤ h.m) (hm1 : h.m ≤ 16) (M : Int) (hM : h.m + 1 = M) (hM2 : M ≤ 16) (e1 : (r.s == 1) = false) (e2 : (r.s == 2) = true) (ef : (h.f == r.f) = true) (ex : ((h.a : Int) == (r.x : Int)) = true) (em : (M == r.m) = true) :
  Calls Tryz.prog 124 #[cfV c A n m, roV r, .agg #[.int .i64 h.f, .int .u32 (h.a : Int), .int .i64 h.m], .int .i64 now] w (RRetP (⟨r.p, r.s, r.m, r.l, r.f, r.x, now + c.t2, r.c⟩ : Rt) w) := by
 obtain ⟨b, W, X, hb, hW, hs, hX, C0, C1, C2, kX, D0, D1, D2, D3, D4⟩ := hearLay c A n m r h w #[.int .u32 (r.p.a : Int), .int .i64 r.p.l, .int .i64 2, .int .i64 M, .int .i64 0, .int .i64 h.f, .int .u32 (h.a : Int), .int .i64 (now + c.t2), .bool true]
 unfold cfC roC zero9 at hW
 have wc2 := Blk.f C0 rfl
 have wp0 := Blk.f C1 rfl
 have wh0 := Blk.f C2 rfl
 have xc0 := Blk.f D0 rfl
 have xp0 := Blk.f D1 rfl
 have xh0 := Blk.f D2 rfl
 have xn0 := Blk.f (l := [.int .u32 (r.p.a : Int), .int .i64 r.p.l, .int .i64 2, .int .i64 M, .int .i64 0, .int .i64 h.f, .int .u32 (h.a : Int), .int .i64 (now + c.t2), .bool true]) D4 rfl
 have y7 := D1.frozen 7
 obtain ⟨Y, hY, kY, E1, E3⟩ : ∃ Y, X.setCell ⟨b + 1, 7, none⟩ (.int .i64 (now + c.t2)) = Y ∧ Kp w Y ∧ Blk Y (b + 1) 52 #[.int .u32 (r.p.a : Int), .int .i64 r.p.l, .int .i64 r.s, .int .i64 r.m, .int .i64 r.l, .int .i64 r.f, .int .u32 (r.x : Int), .int .i64 (now + c.t2), .bool r.c] ∧ Blk Y (b + 1 + 1 + 1) 52 zero9 := ⟨_, rfl, kX.setCell (p := ⟨b + 1, 7, none⟩) (by show w.heap.size ≤ b + 1; omega) _, by have H := D1.set_ 7 (.int .i64 (now + c.t2)); simp only [roC, List.setIfInBounds_toArray, List.set_cons_zero, List.set_cons_succ] at H; exact H, D3.far (p := ⟨b + 1, 7, none⟩) (by show b + 1 + 1 + 1 ≠ b + 1; omega) _⟩
 have yp0 := Blk.f (l := [.int .u32 (r.p.a : Int), .int .i64 r.p.l, .int .i64 r.s, .int .i64 r.m, .int .i64 r.l, .int .i64 r.f, .int .u32 (r.x : Int), .int .i64 (now + c.t2), .bool r.c]) E1 rfl
 have q0 := Blk.f (l := [.int .u32 0, .int .i64 0, .int .i64 0, .int .i64 0, .int .i64 0, .int .i64 0, .int .u32 0, .int .i64 0, .bool false]) E3 rfl
 have z0 := Blk.frozen E3
 obtain ⟨R, hR, BR, kR⟩ := Blk.put9 E3 (⟨r.p, r.s, r.m, r.l, r.f, r.x, now + c.t2, r.c⟩ : Rt) kY (by omega)
 simp only [roSet] at hR
 obtain ⟨u0, u1, u2, u3, u4, u5, u6, u7, u8⟩ := vae BR
 go_enter Tryz.func124, Tryz.ntmps124
 go_wp2_with fail
 exact ⟨rfl, roV (⟨r.p, r.s, r.m, r.l, r.f, r.x, now + c.t2, r.c⟩ : Rt), by simp [results, Tryz.results124, go_sem, lostR, u0, u1, u2, u3, u4, u5, u6, u7, u8], rfl, kR⟩
set_option maxRecDepth 100000 in
theorem hr2lostA (c : Cf) (A : Option Addr) (n m : Nat) (r : Rt) (h : Hd) (now : Int) (w : World) (hn0 : 0 ≤ now) (hn1 : now ≤ 4611686018427387904) (ht0 : 0 ≤ c.t2) (ht1 : c.t2 ≤ 1000000) (hu0 : 0 ≤ c.t3) (hu1 : c.t3 ≤ 1000000) (hm0 : 1 ≤ h.m) (hm1 : h.m ≤ 16) (M : Int) (hM : h.m + 1 = M) (hM2 : M ≤ 16) (e1 : (r.s == 1) = false) (e2 : (r.s == 2) = true) (ef : (h.f == r.f) = true) (ex : ((h.a : Int) == (r.x : Int)) = true) (em : (M == r.m) = false) (el : (M == 16) = true) :
  Calls Tryz.prog 124 #[cfV c A n m, roV r, .agg #[.int .i64 h.f, .int .u32 (h.a : Int), .int .i64 h.m], .int .i64 now] w (RRetP (lostR c r now) w) := by
 obtain ⟨b, W, X, hb, hW, hs, hX, C0, C1, C2, kX, D0, D1, D2, D3, D4⟩ := hearLay c A n m r h w #[.int .u32 (r.p.a : Int), .int .i64 r.p.l, .int .i64 2, .int .i64 M, .int .i64 0, .int .i64 h.f, .int .u32 (h.a : Int), .int .i64 (now + c.t2), .bool true]
 unfold cfC roC zero9 at hW
 have wc2 := Blk.f C0 rfl
 have wp0 := Blk.f C1 rfl
 have wh0 := Blk.f C2 rfl
 have xc0 := Blk.f D0 rfl
 have xp0 := Blk.f D1 rfl
 have xh0 := Blk.f D2 rfl
 have xn0 := Blk.f (l := [.int .u32 (r.p.a : Int), .int .i64 r.p.l, .int .i64 2, .int .i64 M, .int .i64 0, .int .i64 h.f, .int .u32 (h.a : Int), .int .i64 (now + c.t2), .bool true]) D4 rfl
 go_enter Tryz.func124, Tryz.ntmps124
 go_wp2_with fail
 refine (veU c A n m r now _ hn0 hn1 hu0 hu1).mono ?_
 rintro e Y ⟨rfl, hK⟩
 have kY := kX.trans hK
 have E3 := D3.keep hK
 clear xc0 xp0 xh0 xn0
 have q0 := Blk.f (l := [.int .u32 0, .int .i64 0, .int .i64 0, .int .i64 0, .int .i64 0, .int .i64 0, .int .u32 0, .int .i64 0, .bool false]) E3 rfl
 have z0 := Blk.frozen E3
 obtain ⟨R, hR, BR, kR⟩ := Blk.put9 E3 (lostR c r now) kY (by omega)
 simp only [roSet, lostR] at hR
 obtain ⟨u0, u1, u2, u3, u4, u5, u6, u7, u8⟩ := vae BR
 simp only [lostR] at u0 u1 u2 u3 u4 u5 u6 u7 u8
 simp only [lostR]
 go_wp2_with fail
 exact ⟨rfl, roV (lostR c r now), by simp [results, Tryz.results124, go_sem, lostR, u0, u1, u2, u3, u4, u5, u6, u7, u8], rfl, kR⟩
set_option maxRecDepth 100000 in
theorem hr2newA (c : Cf) (A : Option Addr) (n m : Nat) (r : Rt) (h : Hd) (now : Int) (w : World) (hn0 : 0 ≤ now) (hn1 : now ≤ 4611686018427387904) (ht0 : 0 ≤ c.t2) (ht1 : c.t2 ≤ 1000000) (hu0 : 0 ≤ c.t3) (hu1 : c.t3 ≤ 1000000) (hm0 : 1 ≤ h.m) (hm1 : h.m ≤ 16) (M : Int) (hM : h.m + 1 = M) (hM2 : M ≤ 16) (e1 : (r.s == 1) = false) (e2 : (r.s == 2) = true) (ef : (h.f == r.f) = true) (ex : ((h.a : Int) == (r.x : Int)) = true) (em : (M == r.m) = false) (el : (M == 16) = false) :
  Calls Tryz.prog 124 #[cfV c A n m, roV r, .agg #[.int .i64 h.f, .int .u32 (h.a : Int), .int .i64 h.m], .int .i64 now] w (RRetP (⟨r.p, 2, M, 0, h.f, h.a, now + c.t2, true⟩ : Rt) w) := by
 obtain ⟨b, W, X, hb, hW, hs, hX, C0, C1, C2, kX, D0, D1, D2, D3, D4⟩ := hearLay c A n m r h w #[.int .u32 (r.p.a : Int), .int .i64 r.p.l, .int .i64 2, .int .i64 M, .int .i64 0, .int .i64 h.f, .int .u32 (h.a : Int), .int .i64 (now + c.t2), .bool true]
 unfold cfC roC zero9 at hW
 have wc2 := Blk.f C0 rfl
 have wp0 := Blk.f C1 rfl
 have wh0 := Blk.f C2 rfl
 have xc0 := Blk.f D0 rfl
 have xp0 := Blk.f D1 rfl
 have xh0 := Blk.f D2 rfl
 have xn0 := Blk.f (l := [.int .u32 (r.p.a : Int), .int .i64 r.p.l, .int .i64 2, .int .i64 M, .int .i64 0, .int .i64 h.f, .int .u32 (h.a : Int), .int .i64 (now + c.t2), .bool true]) D4 rfl
 have q0 := Blk.f (l := [.int .u32 0, .int .i64 0, .int .i64 0, .int .i64 0, .int .i64 0, .int .i64 0, .int .u32 0, .int .i64 0, .bool false]) D3 rfl
 have z0 := Blk.frozen D3
 obtain ⟨R, hR, BR, kR⟩ := Blk.put9 D3 (⟨r.p, 2, M, 0, h.f, h.a, now + c.t2, true⟩ : Rt) kX (by omega)
 simp only [roSet] at hR
 obtain ⟨u0, u1, u2, u3, u4, u5, u6, u7, u8⟩ := vae BR
 go_enter Tryz.func124, Tryz.ntmps124
 go_wp2_with fail
 exact ⟨rfl, roV (⟨r.p, 2, M, 0, h.f, h.a, now + c.t2, true⟩ : Rt), by simp [results, Tryz.results124, go_sem, lostR, u0, u1, u2, u3, u4, u5, u6, u7, u8], rfl, kR⟩
set_option maxRecDepth 100000 in
theorem hr2ltfA (c : Cf) (A : Option Addr) (n m : Nat) (r : Rt) (h : Hd) (now : Int) (w : World) (hn0 : 0 ≤ now) (hn1 : now ≤ 4611686018427387904) (ht0 : 0 ≤ c.t2) (ht1 : c.t2 ≤ 1000000) (hu0 : 0 ≤ c.t3) (hu1 : c.t3 ≤ 1000000) (hm0 : 1 ≤ h.m) (hm1 : h.m ≤ 16) (M : Int) (hM : h.m + 1 = M) (hM2 : M ≤ 16) (e1 : (r.s == 1) = false) (e2 : (r.s == 2) = true) (ef : (h.f == r.f) = false) (el : decide (M < r.m) = true) :
  Calls Tryz.prog 124 #[cfV c A n m, roV r, .agg #[.int .i64 h.f, .int .u32 (h.a : Int), .int .i64 h.m], .int .i64 now] w (RRetP (⟨r.p, 2, M, 0, h.f, h.a, now + c.t2, true⟩ : Rt) w) := by
 obtain ⟨b, W, X, hb, hW, hs, hX, C0, C1, C2, kX, D0, D1, D2, D3, D4⟩ := hearLay c A n m r h w #[.int .u32 (r.p.a : Int), .int .i64 r.p.l, .int .i64 2, .int .i64 M, .int .i64 0, .int .i64 h.f, .int .u32 (h.a : Int), .int .i64 (now + c.t2), .bool true]
 unfold cfC roC zero9 at hW
 have wc2 := Blk.f C0 rfl
 have wp0 := Blk.f C1 rfl
 have wh0 := Blk.f C2 rfl
 have xc0 := Blk.f D0 rfl
 have xp0 := Blk.f D1 rfl
 have xh0 := Blk.f D2 rfl
 have xn0 := Blk.f (l := [.int .u32 (r.p.a : Int), .int .i64 r.p.l, .int .i64 2, .int .i64 M, .int .i64 0, .int .i64 h.f, .int .u32 (h.a : Int), .int .i64 (now + c.t2), .bool true]) D4 rfl
 have q0 := Blk.f (l := [.int .u32 0, .int .i64 0, .int .i64 0, .int .i64 0, .int .i64 0, .int .i64 0, .int .u32 0, .int .i64 0, .bool false]) D3 rfl
 have z0 := Blk.frozen D3
 obtain ⟨R, hR, BR, kR⟩ := Blk.put9 D3 (⟨r.p, 2, M, 0, h.f, h.a, now + c.t2, true⟩ : Rt) kX (by omega)
 simp only [roSet] at hR
 obtain ⟨u0, u1, u2, u3, u4, u5, u6, u7, u8⟩ := vae BR
 go_enter Tryz.func124, Tryz.ntmps124
 go_wp2_with fail
 exact ⟨rfl, roV (⟨r.p, 2, M, 0, h.f, h.a, now + c.t2, true⟩ : Rt), by simp [results, Tryz.results124, go_sem, lostR, u0, u1, u2, u3, u4, u5, u6, u7, u8], rfl, kR⟩
set_option maxRecDepth 100000 in
theorem hr2gefA (c : Cf) (A : Option Addr) (n m : Nat) (r : Rt) (h : Hd) (now : Int) (w : World) (hn0 : 0 ≤ now) (hn1 : now ≤ 4611686018427387904) (ht0 : 0 ≤ c.t2) (ht1 : c.t2 ≤ 1000000) (hu0 : 0 ≤ c.t3) (hu1 : c.t3 ≤ 1000000) (hm0 : 1 ≤ h.m) (hm1 : h.m ≤ 16) (M : Int) (hM : h.m + 1 = M) (hM2 : M ≤ 16) (e1 : (r.s == 1) = false) (e2 : (r.s == 2) = true) (ef : (h.f == r.f) = false) (el : decide (M < r.m) = false) :
  Calls Tryz.prog 124 #[cfV c A n m, roV r, .agg #[.int .i64 h.f, .int .u32 (h.a : Int), .int .i64 h.m], .int .i64 now] w (RRetP r w) := by
 obtain ⟨b, W, X, hb, hW, hs, hX, C0, C1, C2, kX, D0, D1, D2, D3, D4⟩ := hearLay c A n m r h w #[.int .u32 (r.p.a : Int), .int .i64 r.p.l, .int .i64 2, .int .i64 M, .int .i64 0, .int .i64 h.f, .int .u32 (h.a : Int), .int .i64 (now + c.t2), .bool true]
 unfold cfC roC zero9 at hW
 have wc2 := Blk.f C0 rfl
 have wp0 := Blk.f C1 rfl
 have wh0 := Blk.f C2 rfl
 have xc0 := Blk.f D0 rfl
 have xp0 := Blk.f D1 rfl
 have xh0 := Blk.f D2 rfl
 have xn0 := Blk.f (l := [.int .u32 (r.p.a : Int), .int .i64 r.p.l, .int .i64 2, .int .i64 M, .int .i64 0, .int .i64 h.f, .int .u32 (h.a : Int), .int .i64 (now + c.t2), .bool true]) D4 rfl
 have q0 := Blk.f (l := [.int .u32 0, .int .i64 0, .int .i64 0, .int .i64 0, .int .i64 0, .int .i64 0, .int .u32 0, .int .i64 0, .bool false]) D3 rfl
 have z0 := Blk.frozen D3
 obtain ⟨R, hR, BR, kR⟩ := Blk.put9 D3 r kX (by omega)
 simp only [roSet] at hR
 obtain ⟨u0, u1, u2, u3, u4, u5, u6, u7, u8⟩ := vae BR
 go_enter Tryz.func124, Tryz.ntmps124
 go_wp2_with fail
 exact ⟨rfl, roV r, by simp [results, Tryz.results124, go_sem, lostR, u0, u1, u2, u3, u4, u5, u6, u7, u8], rfl, kR⟩
set_option maxRecDepth 100000 in
theorem hr2ltxA (c : Cf) (A : Option Addr) (n m : Nat) (r : Rt) (h : Hd) (now : Int) (w : World) (hn0 : 0 ≤ now) (hn1 : now ≤ 4611686018427387904) (ht0 : 0 ≤ c.t2) (ht1 : c.t2 ≤ 1000000) (hu0 : 0 ≤ c.t3) (hu1 : c.t3 ≤ 1000000) (hm0 : 1 ≤ h.m) (hm1 : h.m ≤ 16) (M : Int) (hM : h.m + 1 = M) (hM2 : M ≤ 16) (e1 : (r.s == 1) = false) (e2 : (r.s == 2) = true) (ef : (h.f == r.f) = true) (ex : ((h.a : Int) == (r.x : Int)) = false) (el : decide (M < r.m) = true) :
  Calls Tryz.prog 124 #[cfV c A n m, roV r, .agg #[.int .i64 h.f, .int .u32 (h.a : Int), .int .i64 h.m], .int .i64 now] w (RRetP (⟨r.p, 2, M, 0, h.f, h.a, now + c.t2, true⟩ : Rt) w) := by
 obtain ⟨b, W, X, hb, hW, hs, hX, C0, C1, C2, kX, D0, D1, D2, D3, D4⟩ := hearLay c A n m r h w #[.int .u32 (r.p.a : Int), .int .i64 r.p.l, .int .i64 2, .int .i64 M, .int .i64 0, .int .i64 h.f, .int .u32 (h.a : Int), .int .i64 (now + c.t2), .bool true]
 unfold cfC roC zero9 at hW
 have wc2 := Blk.f C0 rfl
 have wp0 := Blk.f C1 rfl
 have wh0 := Blk.f C2 rfl
 have xc0 := Blk.f D0 rfl
 have xp0 := Blk.f D1 rfl
 have xh0 := Blk.f D2 rfl
 have xn0 := Blk.f (l := [.int .u32 (r.p.a : Int), .int .i64 r.p.l, .int .i64 2, .int .i64 M, .int .i64 0, .int .i64 h.f, .int .u32 (h.a : Int), .int .i64 (now + c.t2), .bool true]) D4 rfl
 have q0 := Blk.f (l := [.int .u32 0, .int .i64 0, .int .i64 0, .int .i64 0, .int .i64 0, .int .i64 0, .int .u32 0, .int .i64 0, .bool false]) D3 rfl
 have z0 := Blk.frozen D3
 obtain ⟨R, hR, BR, kR⟩ := Blk.put9 D3 (⟨r.p, 2, M, 0, h.f, h.a, now + c.t2, true⟩ : Rt) kX (by omega)
 simp only [roSet] at hR
 obtain ⟨u0, u1, u2, u3, u4, u5, u6, u7, u8⟩ := vae BR
 go_enter Tryz.func124, Tryz.ntmps124
 go_wp2_with fail
 exact ⟨rfl, roV (⟨r.p, 2, M, 0, h.f, h.a, now + c.t2, true⟩ : Rt), by simp [results, Tryz.results124, go_sem, lostR, u0, u1, u2, u3, u4, u5, u6, u7, u8], rfl, kR⟩
set_option maxRecDepth 100000 in
theorem hr2gexA (c : Cf) (A : Option Addr) (n m : Nat) (r : Rt) (h : Hd) (now : Int) (w : World) (hn0 : 0 ≤ now) (hn1 : now ≤ 4611686018427387904) (ht0 : 0 ≤ c.t2) (ht1 : c.t2 ≤ 1000000) (hu0 : 0 ≤ c.t3) (hu1 : c.t3 ≤ 1000000) (hm0 : 1 ≤ h.m) (hm1 : h.m ≤ 16) (M : Int) (hM : h.m + 1 = M) (hM2 : M ≤ 16) (e1 : (r.s == 1) = false) (e2 : (r.s == 2) = true) (ef : (h.f == r.f) = true) (ex : ((h.a : Int) == (r.x : Int)) = false) (el : decide (M < r.m) = false) :
  Calls Tryz.prog 124 #[cfV c A n m, roV r, .agg #[.int .i64 h.f, .int .u32 (h.a : Int), .int .i64 h.m], .int .i64 now] w (RRetP r w) := by
 obtain ⟨b, W, X, hb, hW, hs, hX, C0, C1, C2, kX, D0, D1, D2, D3, D4⟩ := hearLay c A n m r h w #[.int .u32 (r.p.a : Int), .int .i64 r.p.l, .int .i64 2, .int .i64 M, .int .i64 0, .int .i64 h.f, .int .u32 (h.a : Int), .int .i64 (now + c.t2), .bool true]
 unfold cfC roC zero9 at hW
 have wc2 := Blk.f C0 rfl
 have wp0 := Blk.f C1 rfl
 have wh0 := Blk.f C2 rfl
 have xc0 := Blk.f D0 rfl
 have xp0 := Blk.f D1 rfl
 have xh0 := Blk.f D2 rfl
 have xn0 := Blk.f (l := [.int .u32 (r.p.a : Int), .int .i64 r.p.l, .int .i64 2, .int .i64 M, .int .i64 0, .int .i64 h.f, .int .u32 (h.a : Int), .int .i64 (now + c.t2), .bool true]) D4 rfl
 have q0 := Blk.f (l := [.int .u32 0, .int .i64 0, .int .i64 0, .int .i64 0, .int .i64 0, .int .i64 0, .int .u32 0, .int .i64 0, .bool false]) D3 rfl
 have z0 := Blk.frozen D3
 obtain ⟨R, hR, BR, kR⟩ := Blk.put9 D3 r kX (by omega)
 simp only [roSet] at hR
 obtain ⟨u0, u1, u2, u3, u4, u5, u6, u7, u8⟩ := vae BR
 go_enter Tryz.func124, Tryz.ntmps124
 go_wp2_with fail
 exact ⟨rfl, roV r, by simp [results, Tryz.results124, go_sem, lostR, u0, u1, u2, u3, u4, u5, u6, u7, u8], rfl, kR⟩
set_option maxRecDepth 100000 in
theorem hr3ltA (c : Cf) (A : Option Addr) (n m : Nat) (r : Rt) (h : Hd) (now : Int) (w : World) (hn0 : 0 ≤ now) (hn1 : now ≤ 4611686018427387904) (ht0 : 0 ≤ c.t2) (ht1 : c.t2 ≤ 1000000) (hu0 : 0 ≤ c.t3) (hu1 : c.t3 ≤ 1000000) (hm0 : 1 ≤ h.m) (hm1 : h.m ≤ 16) (M : Int) (hM : h.m + 1 = M) (hM2 : M ≤ 16) (e1 : (r.s == 1) = false) (e2 : (r.s == 2) = false) (e3 : (r.s == 3) = true) (el : decide (M < r.l) = true) :
  Calls Tryz.prog 124 #[cfV c A n m, roV r, .agg #[.int .i64 h.f, .int .u32 (h.a : Int), .int .i64 h.m], .int .i64 now] w (RRetP (⟨r.p, 2, M, 0, h.f, h.a, now + c.t2, true⟩ : Rt) w) := by
 obtain ⟨b, W, X, hb, hW, hs, hX, C0, C1, C2, kX, D0, D1, D2, D3, D4⟩ := hearLay c A n m r h w #[.int .u32 (r.p.a : Int), .int .i64 r.p.l, .int .i64 2, .int .i64 M, .int .i64 0, .int .i64 h.f, .int .u32 (h.a : Int), .int .i64 (now + c.t2), .bool true]
 unfold cfC roC zero9 at hW
 have wc2 := Blk.f C0 rfl
 have wp0 := Blk.f C1 rfl
 have wh0 := Blk.f C2 rfl
 have xc0 := Blk.f D0 rfl
 have xp0 := Blk.f D1 rfl
 have xh0 := Blk.f D2 rfl
 have xn0 := Blk.f (l := [.int .u32 (r.p.a : Int), .int .i64 r.p.l, .int .i64 2, .int .i64 M, .int .i64 0, .int .i64 h.f, .int .u32 (h.a : Int), .int .i64 (now + c.t2), .bool true]) D4 rfl
 have q0 := Blk.f (l := [.int .u32 0, .int .i64 0, .int .i64 0, .int .i64 0, .int .i64 0, .int .i64 0, .int .u32 0, .int .i64 0, .bool false]) D3 rfl
 have z0 := Blk.frozen D3
 obtain ⟨R, hR, BR, kR⟩ := Blk.put9 D3 (⟨r.p, 2, M, 0, h.f, h.a, now + c.t2, true⟩ : Rt) kX (by omega)
 simp only [roSet] at hR
 obtain ⟨u0, u1, u2, u3, u4, u5, u6, u7, u8⟩ := vae BR
 go_enter Tryz.func124, Tryz.ntmps124
 go_wp2_with fail
 exact ⟨rfl, roV (⟨r.p, 2, M, 0, h.f, h.a, now + c.t2, true⟩ : Rt), by simp [results, Tryz.results124, go_sem, lostR, u0, u1, u2, u3, u4, u5, u6, u7, u8], rfl, kR⟩
set_option maxRecDepth 100000 in
theorem hr3geA (c : Cf) (A : Option Addr) (n m : Nat) (r : Rt) (h : Hd) (now : Int) (w : World) (hn0 : 0 ≤ now) (hn1 : now ≤ 4611686018427387904) (ht0 : 0 ≤ c.t2) (ht1 : c.t2 ≤ 1000000) (hu0 : 0 ≤ c.t3) (hu1 : c.t3 ≤ 1000000) (hm0 : 1 ≤ h.m) (hm1 : h.m ≤ 16) (M : Int) (hM : h.m + 1 = M) (hM2 : M ≤ 16) (e1 : (r.s == 1) = false) (e2 : (r.s == 2) = false) (e3 : (r.s == 3) = true) (el : decide (M < r.l) = false) :
  Calls Tryz.prog 124 #[cfV c A n m, roV r, .agg #[.int .i64 h.f, .int .u32 (h.a : Int), .int .i64 h.m], .int .i64 now] w (RRetP r w) := by
 obtain ⟨b, W, X, hb, hW, hs, hX, C0, C1, C2, kX, D0, D1, D2, D3, D4⟩ := hearLay c A n m r h w #[.int .u32 (r.p.a : Int), .int .i64 r.p.l, .int .i64 2, .int .i64 M, .int .i64 0, .int .i64 h.f, .int .u32 (h.a : Int), .int .i64 (now + c.t2), .bool true]
 unfold cfC roC zero9 at hW
 have wc2 := Blk.f C0 rfl
 have wp0 := Blk.f C1 rfl
 have wh0 := Blk.f C2 rfl
 have xc0 := Blk.f D0 rfl
 have xp0 := Blk.f D1 rfl
 have xh0 := Blk.f D2 rfl
 have xn0 := Blk.f (l := [.int .u32 (r.p.a : Int), .int .i64 r.p.l, .int .i64 2, .int .i64 M, .int .i64 0, .int .i64 h.f, .int .u32 (h.a : Int), .int .i64 (now + c.t2), .bool true]) D4 rfl
 have q0 := Blk.f (l := [.int .u32 0, .int .i64 0, .int .i64 0, .int .i64 0, .int .i64 0, .int .i64 0, .int .u32 0, .int .i64 0, .bool false]) D3 rfl
 have z0 := Blk.frozen D3
 obtain ⟨R, hR, BR, kR⟩ := Blk.put9 D3 r kX (by omega)
 simp only [roSet] at hR
 obtain ⟨u0, u1, u2, u3, u4, u5, u6, u7, u8⟩ := vae BR
 go_enter Tryz.func124, Tryz.ntmps124
 go_wp2_with fail
 exact ⟨rfl, roV r, by simp [results, Tryz.results124, go_sem, lostR, u0, u1, u2, u3, u4, u5, u6, u7, u8], rfl, kR⟩
set_option maxRecDepth 100000 in
theorem hr0ltA (c : Cf) (A : Option Addr) (n m : Nat) (r : Rt) (h : Hd) (now : Int) (w : World) (hn0 : 0 ≤ now) (hn1 : now ≤ 4611686018427387904) (ht0 : 0 ≤ c.t2) (ht1 : c.t2 ≤ 1000000) (hu0 : 0 ≤ c.t3) (hu1 : c.t3 ≤ 1000000) (hm0 : 1 ≤ h.m) (hm1 : h.m ≤ 16) (M : Int) (hM : h.m + 1 = M) (hM2 : M ≤ 16) (e1 : (r.s == 1) = false) (e2 : (r.s == 2) = false) (e3 : (r.s == 3) = false) (e0 : (r.s == 0) = true) (el : decide (M < 16) = true) :
  Calls Tryz.prog 124 #[cfV c A n m, roV r, .agg #[.int .i64 h.f, .int .u32 (h.a : Int), .int .i64 h.m], .int .i64 now] w (RRetP (⟨r.p, 2, M, 0, h.f, h.a, now + c.t2, true⟩ : Rt) w) := by
 obtain ⟨b, W, X, hb, hW, hs, hX, C0, C1, C2, kX, D0, D1, D2, D3, D4⟩ := hearLay c A n m r h w #[.int .u32 (r.p.a : Int), .int .i64 r.p.l, .int .i64 2, .int .i64 M, .int .i64 0, .int .i64 h.f, .int .u32 (h.a : Int), .int .i64 (now + c.t2), .bool true]
 unfold cfC roC zero9 at hW
 have wc2 := Blk.f C0 rfl
 have wp0 := Blk.f C1 rfl
 have wh0 := Blk.f C2 rfl
 have xc0 := Blk.f D0 rfl
 have xp0 := Blk.f D1 rfl
 have xh0 := Blk.f D2 rfl
 have xn0 := Blk.f (l := [.int .u32 (r.p.a : Int), .int .i64 r.p.l, .int .i64 2, .int .i64 M, .int .i64 0, .int .i64 h.f, .int .u32 (h.a : Int), .int .i64 (now + c.t2), .bool true]) D4 rfl
 have q0 := Blk.f (l := [.int .u32 0, .int .i64 0, .int .i64 0, .int .i64 0, .int .i64 0, .int .i64 0, .int .u32 0, .int .i64 0, .bool false]) D3 rfl
 have z0 := Blk.frozen D3
 obtain ⟨R, hR, BR, kR⟩ := Blk.put9 D3 (⟨r.p, 2, M, 0, h.f, h.a, now + c.t2, true⟩ : Rt) kX (by omega)
 simp only [roSet] at hR
 obtain ⟨u0, u1, u2, u3, u4, u5, u6, u7, u8⟩ := vae BR
 go_enter Tryz.func124, Tryz.ntmps124
 go_wp2_with fail
 exact ⟨rfl, roV (⟨r.p, 2, M, 0, h.f, h.a, now + c.t2, true⟩ : Rt), by simp [results, Tryz.results124, go_sem, lostR, u0, u1, u2, u3, u4, u5, u6, u7, u8], rfl, kR⟩
set_option maxRecDepth 100000 in
theorem hr0geA (c : Cf) (A : Option Addr) (n m : Nat) (r : Rt) (h : Hd) (now : Int) (w : World) (hn0 : 0 ≤ now) (hn1 : now ≤ 4611686018427387904) (ht0 : 0 ≤ c.t2) (ht1 : c.t2 ≤ 1000000) (hu0 : 0 ≤ c.t3) (hu1 : c.t3 ≤ 1000000) (hm0 : 1 ≤ h.m) (hm1 : h.m ≤ 16) (M : Int) (hM : h.m + 1 = M) (hM2 : M ≤ 16) (e1 : (r.s == 1) = false) (e2 : (r.s == 2) = false) (e3 : (r.s == 3) = false) (e0 : (r.s == 0) = true) (el : decide (M < 16) = false) :
  Calls Tryz.prog 124 #[cfV c A n m, roV r, .agg #[.int .i64 h.f, .int .u32 (h.a : Int), .int .i64 h.m], .int .i64 now] w (RRetP r w) := by
 obtain ⟨b, W, X, hb, hW, hs, hX, C0, C1, C2, kX, D0, D1, D2, D3, D4⟩ := hearLay c A n m r h w #[.int .u32 (r.p.a : Int), .int .i64 r.p.l, .int .i64 2, .int .i64 M, .int .i64 0, .int .i64 h.f, .int .u32 (h.a : Int), .int .i64 (now + c.t2), .bool true]
 unfold cfC roC zero9 at hW
 have wc2 := Blk.f C0 rfl
 have wp0 := Blk.f C1 rfl
 have wh0 := Blk.f C2 rfl
 have xc0 := Blk.f D0 rfl
 have xp0 := Blk.f D1 rfl
 have xh0 := Blk.f D2 rfl
 have xn0 := Blk.f (l := [.int .u32 (r.p.a : Int), .int .i64 r.p.l, .int .i64 2, .int .i64 M, .int .i64 0, .int .i64 h.f, .int .u32 (h.a : Int), .int .i64 (now + c.t2), .bool true]) D4 rfl
 have q0 := Blk.f (l := [.int .u32 0, .int .i64 0, .int .i64 0, .int .i64 0, .int .i64 0, .int .i64 0, .int .u32 0, .int .i64 0, .bool false]) D3 rfl
 have z0 := Blk.frozen D3
 obtain ⟨R, hR, BR, kR⟩ := Blk.put9 D3 r kX (by omega)
 simp only [roSet] at hR
 obtain ⟨u0, u1, u2, u3, u4, u5, u6, u7, u8⟩ := vae BR
 go_enter Tryz.func124, Tryz.ntmps124
 go_wp2_with fail
 exact ⟨rfl, roV r, by simp [results, Tryz.results124, go_sem, lostR, u0, u1, u2, u3, u4, u5, u6, u7, u8], rfl, kR⟩
set_option maxRecDepth 100000 in
theorem hr4ltA (c : Cf) (A : Option Addr) (n m : Nat) (r : Rt) (h : Hd) (now : Int) (w : World) (hn0 : 0 ≤ now) (hn1 : now ≤ 4611686018427387904) (ht0 : 0 ≤ c.t2) (ht1 : c.t2 ≤ 1000000) (hu0 : 0 ≤ c.t3) (hu1 : c.t3 ≤ 1000000) (hm0 : 1 ≤ h.m) (hm1 : h.m ≤ 16) (M : Int) (hM : h.m + 1 = M) (hM2 : M ≤ 16) (e1 : (r.s == 1) = false) (e2 : (r.s == 2) = false) (e3 : (r.s == 3) = false) (e0 : (r.s == 0) = false) (e4 : (r.s == 4) = true) (el : decide (M < 16) = true) :
  Calls Tryz.prog 124 #[cfV c A n m, roV r, .agg #[.int .i64 h.f, .int .u32 (h.a : Int), .int .i64 h.m], .int .i64 now] w (RRetP (⟨r.p, 2, M, 0, h.f, h.a, now + c.t2, true⟩ : Rt) w) := by
 obtain ⟨b, W, X, hb, hW, hs, hX, C0, C1, C2, kX, D0, D1, D2, D3, D4⟩ := hearLay c A n m r h w #[.int .u32 (r.p.a : Int), .int .i64 r.p.l, .int .i64 2, .int .i64 M, .int .i64 0, .int .i64 h.f, .int .u32 (h.a : Int), .int .i64 (now + c.t2), .bool true]
 unfold cfC roC zero9 at hW
 have wc2 := Blk.f C0 rfl
 have wp0 := Blk.f C1 rfl
 have wh0 := Blk.f C2 rfl
 have xc0 := Blk.f D0 rfl
 have xp0 := Blk.f D1 rfl
 have xh0 := Blk.f D2 rfl
 have xn0 := Blk.f (l := [.int .u32 (r.p.a : Int), .int .i64 r.p.l, .int .i64 2, .int .i64 M, .int .i64 0, .int .i64 h.f, .int .u32 (h.a : Int), .int .i64 (now + c.t2), .bool true]) D4 rfl
 have q0 := Blk.f (l := [.int .u32 0, .int .i64 0, .int .i64 0, .int .i64 0, .int .i64 0, .int .i64 0, .int .u32 0, .int .i64 0, .bool false]) D3 rfl
 have z0 := Blk.frozen D3
 obtain ⟨R, hR, BR, kR⟩ := Blk.put9 D3 (⟨r.p, 2, M, 0, h.f, h.a, now + c.t2, true⟩ : Rt) kX (by omega)
 simp only [roSet] at hR
 obtain ⟨u0, u1, u2, u3, u4, u5, u6, u7, u8⟩ := vae BR
 go_enter Tryz.func124, Tryz.ntmps124
 go_wp2_with fail
 exact ⟨rfl, roV (⟨r.p, 2, M, 0, h.f, h.a, now + c.t2, true⟩ : Rt), by simp [results, Tryz.results124, go_sem, lostR, u0, u1, u2, u3, u4, u5, u6, u7, u8], rfl, kR⟩
set_option maxRecDepth 100000 in
theorem hr4geA (c : Cf) (A : Option Addr) (n m : Nat) (r : Rt) (h : Hd) (now : Int) (w : World) (hn0 : 0 ≤ now) (hn1 : now ≤ 4611686018427387904) (ht0 : 0 ≤ c.t2) (ht1 : c.t2 ≤ 1000000) (hu0 : 0 ≤ c.t3) (hu1 : c.t3 ≤ 1000000) (hm0 : 1 ≤ h.m) (hm1 : h.m ≤ 16) (M : Int) (hM : h.m + 1 = M) (hM2 : M ≤ 16) (e1 : (r.s == 1) = false) (e2 : (r.s == 2) = false) (e3 : (r.s == 3) = false) (e0 : (r.s == 0) = false) (e4 : (r.s == 4) = true) (el : decide (M < 16) = false) :
  Calls Tryz.prog 124 #[cfV c A n m, roV r, .agg #[.int .i64 h.f, .int .u32 (h.a : Int), .int .i64 h.m], .int .i64 now] w (RRetP r w) := by
 obtain ⟨b, W, X, hb, hW, hs, hX, C0, C1, C2, kX, D0, D1, D2, D3, D4⟩ := hearLay c A n m r h w #[.int .u32 (r.p.a : Int), .int .i64 r.p.l, .int .i64 2, .int .i64 M, .int .i64 0, .int .i64 h.f, .int .u32 (h.a : Int), .int .i64 (now + c.t2), .bool true]
 unfold cfC roC zero9 at hW
 have wc2 := Blk.f C0 rfl
 have wp0 := Blk.f C1 rfl
 have wh0 := Blk.f C2 rfl
 have xc0 := Blk.f D0 rfl
 have xp0 := Blk.f D1 rfl
 have xh0 := Blk.f D2 rfl
 have xn0 := Blk.f (l := [.int .u32 (r.p.a : Int), .int .i64 r.p.l, .int .i64 2, .int .i64 M, .int .i64 0, .int .i64 h.f, .int .u32 (h.a : Int), .int .i64 (now + c.t2), .bool true]) D4 rfl
 have q0 := Blk.f (l := [.int .u32 0, .int .i64 0, .int .i64 0, .int .i64 0, .int .i64 0, .int .i64 0, .int .u32 0, .int .i64 0, .bool false]) D3 rfl
 have z0 := Blk.frozen D3
 obtain ⟨R, hR, BR, kR⟩ := Blk.put9 D3 r kX (by omega)
 simp only [roSet] at hR
 obtain ⟨u0, u1, u2, u3, u4, u5, u6, u7, u8⟩ := vae BR
 go_enter Tryz.func124, Tryz.ntmps124
 go_wp2_with fail
 exact ⟨rfl, roV r, by simp [results, Tryz.results124, go_sem, lostR, u0, u1, u2, u3, u4, u5, u6, u7, u8], rfl, kR⟩
end

end Go.Proofs.YtgopnfacklmkaaaGreatDoor
