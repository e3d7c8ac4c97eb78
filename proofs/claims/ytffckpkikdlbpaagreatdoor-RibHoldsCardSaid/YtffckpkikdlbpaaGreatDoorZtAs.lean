/- Lemmas and contracts for the theorem of this claim: RoB. -/
import Derived.Test.YtffckpkikdlbpaaGreatDoorZtAr
import Derived.BigQuiet
set_option linter.unusedSimpArgs false
set_option linter.unusedVariables false
namespace Go.Proofs.YtffckpkikdlbpaaGreatDoor
open Go.RowKit
def RRetP (x : Rt) (w : World) (e : Ending) (w' : World) : Prop := e = .returned (roV x) ∧ Kp w w'
def timedB (r : Rt) : Bool := (r.s == 2) || ((r.s == 3) || (r.s == 4))
set_option maxRecDepth 100000 in
set_option maxHeartbeats 1000000 in
theorem timed_any (r : Rt) (w : World) : Calls Tryz.prog 113 #[roV r] w fun e w' => e = .returned (.bool (timedB r)) ∧ Kp w w' := by
  obtain ⟨b, hb⟩ : ∃ b, w.heap.size = b := ⟨_, rfl⟩
  obtain ⟨W, hW, kW, B0⟩ : ∃ W, w.alloc (.cells (roC r) 170) = W ∧ Kp w W ∧ Blk W b 170 (roC r) := ⟨_, rfl, (Kp.refl _).alloc _, by rw [← hb]; exact Blk.new w _ _⟩
  have c2 : W.cell? ⟨b, 2, none⟩ = some (.int .i64 r.s) := B0.cell 2
  unfold roC at hW
  cases h2 : (r.s == 2) with
  | true =>
    have H := Lib.hid (show timedB r = true by unfold timedB; rw [h2]; rfl)
    go_enter Tryz.func113, Tryz.ntmps113
    go_wp2_with fail
    go_ret
    exact ⟨by rw [H.out]; rfl, kW⟩
  | false =>
    cases h3 : (r.s == 3) with
    | true =>
      have H := Lib.hid (show timedB r = true by unfold timedB; rw [h2, h3]; rfl)
      go_enter Tryz.func113, Tryz.ntmps113
      go_wp2_with fail
      go_ret
      exact ⟨by rw [H.out]; rfl, kW⟩
    | false =>
      cases h4 : (r.s == 4) with
      | true =>
        have H := Lib.hid (show timedB r = true by unfold timedB; rw [h2, h3, h4]; rfl)
        go_enter Tryz.func113, Tryz.ntmps113
        go_wp2_with fail
        go_ret
        exact ⟨by rw [H.out]; rfl, kW⟩
      | false =>
        have H := Lib.hid (show timedB r = false by unfold timedB; rw [h2, h3, h4]; rfl)
        go_enter Tryz.func113, Tryz.ntmps113
        go_wp2_with fail
        go_ret
        exact ⟨by rw [H.out]; rfl, kW⟩
set_option maxRecDepth 100000 in
set_option maxHeartbeats 2000000 in
theorem lost_any (c : Cf) (A : Option Addr) (n m : Nat) (r : Rt) (now : Int) (w : World) (hn0 : 0 ≤ now) (hn1 : now ≤ 4611686018427387904) (ht0 : 0 ≤ c.t3) (ht1 : c.t3 ≤ 1000000) : Calls Tryz.prog 110 #[cfV c A n m, roV r, .int .i64 now] w fun e w' => e = .returned (roV (lostR c r now)) ∧ Kp w w' := by
  obtain ⟨b, hb⟩ : ∃ b, w.heap.size = b := ⟨_, rfl⟩
  obtain ⟨W, hW, kW, B0, B1, B2⟩ : ∃ W, ((w.alloc (.cells (cfC c A n m) 24)).alloc (.cells (roC r) 48)).alloc (.cells zero9 48) = W ∧ Kp w W ∧ Blk W b 24 (cfC c A n m) ∧ Blk W (b + 1) 48 (roC r) ∧ Blk W (b + 1 + 1) 48 zero9 := ⟨_, rfl, (((Kp.refl _).alloc _).alloc _).alloc _, by rw [← hb]; exact ((Blk.new w _ _).alloc _).alloc _, by rw [← hb]; exact (Blk.new1 w _ _ _).alloc _, by rw [← hb]; exact Blk.new2 w _ _ _ _⟩
  unfold cfC roC zero9 at hW
  have hlt := B2.lt
  have c3 : W.cell? ⟨b, 3, none⟩ = some (.int .i64 c.t3) := B0.cell 3
  have p0 : W.cell? ⟨b + 1, 0, none⟩ = some (.int .u32 (r.p.a : Int)) := B1.cell 0
  have p1 : W.cell? ⟨b + 1, 1, none⟩ = some (.int .i64 r.p.l) := B1.cell 1
  have p2 : W.cell? ⟨b + 1, 2, none⟩ = some (.int .i64 r.s) := B1.cell 2
  have p3 : W.cell? ⟨b + 1, 3, none⟩ = some (.int .i64 r.m) := B1.cell 3
  have p4 : W.cell? ⟨b + 1, 4, none⟩ = some (.int .i64 r.l) := B1.cell 4
  have p5 : W.cell? ⟨b + 1, 5, none⟩ = some (.int .i64 r.f) := B1.cell 5
  have p6 : W.cell? ⟨b + 1, 6, none⟩ = some (.int .u32 (r.x : Int)) := B1.cell 6
  have p7 : W.cell? ⟨b + 1, 7, none⟩ = some (.int .i64 r.d) := B1.cell 7
  have p8 : W.cell? ⟨b + 1, 8, none⟩ = some (.bool r.c) := B1.cell 8
  have y0 := B1.frozen 0
  have y1 := B1.frozen 1
  have y2 := B1.frozen 2
  have y3 := B1.frozen 3
  have y4 := B1.frozen 4
  have y5 := B1.frozen 5
  have y6 := B1.frozen 6
  have y7 := B1.frozen 7
  have y8 := B1.frozen 8
  obtain ⟨W5, hW5, B5, B6, k5⟩ : ∃ W5, (((((W.setCell ⟨b + 1, 2, none⟩ (.int .i64 3)).setCell ⟨b + 1, 4, none⟩ (.int .i64 r.m)).setCell ⟨b + 1, 3, none⟩ (.int .i64 16)).setCell ⟨b + 1, 7, none⟩ (.int .i64 (now + c.t3))).setCell ⟨b + 1, 8, none⟩ (.bool true)) = W5 ∧ Blk W5 (b + 1) 48 #[.int .u32 (r.p.a : Int), .int .i64 r.p.l, .int .i64 3, .int .i64 16, .int .i64 r.m, .int .i64 r.f, .int .u32 (r.x : Int), .int .i64 (now + c.t3), .bool true] ∧ Blk W5 (b + 1 + 1) 48 zero9 ∧ Kp w W5 := ⟨_, rfl, by have H := (((((B1.set_ 2 (.int .i64 3)).set_ 4 (.int .i64 r.m)).set_ 3 (.int .i64 16)).set_ 7 (.int .i64 (now + c.t3))).set_ 8 (.bool true)); simp only [roC, List.setIfInBounds_toArray, List.set_cons_zero, List.set_cons_succ] at H; exact H, (((((B2.far (p := ⟨b + 1, 2, none⟩) (by show b + 1 + 1 ≠ b + 1; omega) (.int .i64 3)).far (p := ⟨b + 1, 4, none⟩) (by show b + 1 + 1 ≠ b + 1; omega) (.int .i64 r.m)).far (p := ⟨b + 1, 3, none⟩) (by show b + 1 + 1 ≠ b + 1; omega) (.int .i64 16)).far (p := ⟨b + 1, 7, none⟩) (by show b + 1 + 1 ≠ b + 1; omega) (.int .i64 (now + c.t3))).far (p := ⟨b + 1, 8, none⟩) (by show b + 1 + 1 ≠ b + 1; omega) (.bool true)), (((((kW.setCell (p := ⟨b + 1, 2, none⟩) (by show w.heap.size ≤ b + 1; omega) (.int .i64 3)).setCell (p := ⟨b + 1, 4, none⟩) (by show w.heap.size ≤ b + 1; omega) (.int .i64 r.m)).setCell (p := ⟨b + 1, 3, none⟩) (by show w.heap.size ≤ b + 1; omega) (.int .i64 16)).setCell (p := ⟨b + 1, 7, none⟩) (by show w.heap.size ≤ b + 1; omega) (.int .i64 (now + c.t3))).setCell (p := ⟨b + 1, 8, none⟩) (by show w.heap.size ≤ b + 1; omega) (.bool true))⟩
  have s0 : W5.cell? ⟨b + 1, 0, none⟩ = some (.int .u32 (r.p.a : Int)) := B5.cell 0
  have s1 : W5.cell? ⟨b + 1, 1, none⟩ = some (.int .i64 r.p.l) := B5.cell 1
  have s2 : W5.cell? ⟨b + 1, 2, none⟩ = some (.int .i64 3) := B5.cell 2
  have s3 : W5.cell? ⟨b + 1, 3, none⟩ = some (.int .i64 16) := B5.cell 3
  have s4 : W5.cell? ⟨b + 1, 4, none⟩ = some (.int .i64 r.m) := B5.cell 4
  have s5 : W5.cell? ⟨b + 1, 5, none⟩ = some (.int .i64 r.f) := B5.cell 5
  have s6 : W5.cell? ⟨b + 1, 6, none⟩ = some (.int .u32 (r.x : Int)) := B5.cell 6
  have s7 : W5.cell? ⟨b + 1, 7, none⟩ = some (.int .i64 (now + c.t3)) := B5.cell 7
  have s8 : W5.cell? ⟨b + 1, 8, none⟩ = some (.bool true) := B5.cell 8
  have q0 : W5.cell? ⟨b + 1 + 1, 0, none⟩ = some (.int .u32 0) := B6.cell 0
  have q1 : W5.cell? ⟨b + 1 + 1, 1, none⟩ = some (.int .i64 0) := B6.cell 1
  have q2 : W5.cell? ⟨b + 1 + 1, 2, none⟩ = some (.int .i64 0) := B6.cell 2
  have q3 : W5.cell? ⟨b + 1 + 1, 3, none⟩ = some (.int .i64 0) := B6.cell 3
  have q4 : W5.cell? ⟨b + 1 + 1, 4, none⟩ = some (.int .i64 0) := B6.cell 4
  have q5 : W5.cell? ⟨b + 1 + 1, 5, none⟩ = some (.int .i64 0) := B6.cell 5
  have q6 : W5.cell? ⟨b + 1 + 1, 6, none⟩ = some (.int .u32 0) := B6.cell 6
  have q7 : W5.cell? ⟨b + 1 + 1, 7, none⟩ = some (.int .i64 0) := B6.cell 7
  have q8 : W5.cell? ⟨b + 1 + 1, 8, none⟩ = some (.bool false) := B6.cell 8
  have z0 := B6.frozen 0
  have z1 := B6.frozen 1
  have z2 := B6.frozen 2
  have z3 := B6.frozen 3
  have z4 := B6.frozen 4
  have z5 := B6.frozen 5
  have z6 := B6.frozen 6
  have z7 := B6.frozen 7
  have z8 := B6.frozen 8
  obtain ⟨W3, hW3, B7, k3⟩ : ∃ W3, roSet W5 (b + 1 + 1) (lostR c r now) = W3 ∧ Blk W3 (b + 1 + 1) 48 (roC (lostR c r now)) ∧ Kp w W3 := ⟨_, rfl, Blk.putRo B6 _, k5.putRo (by omega) _⟩
  obtain ⟨u0, u1, u2, u3, u4, u5, u6, u7, u8⟩ := ro_cells B7
  simp only [roSet, lostR] at hW3
  simp only [lostR] at u0 u1 u2 u3 u4 u5 u6 u7 u8
  go_enter Tryz.func110, Tryz.ntmps110
  go_wp2_with fail
  exact ⟨rfl, roV (lostR c r now), by simp [results, Tryz.results110, go_sem, lostR, u0, u1, u2, u3, u4, u5, u6, u7, u8], rfl, k3⟩
abbrev stopRV (e : Int) : Value := .iface 163 (.int .i64 e)
abbrev stopR (e : Int) : Ending := .panicked [{ v := stopRV e, recovered := false }]
def yesP (b : Bool) (n : Int) (w : World) (e : Ending) (w' : World) : Prop := (b = true → e = .returned (.tuple #[])) ∧ (b = false → e = stopR n) ∧ Kp w w'
theorem yesP.no {b : Bool} {n : Int} {w w' : World} (h : b = false) (k : Kp w w') : yesP b n w (stopR n) w' := ⟨fun e => (by rw [h] at e; cases e), fun _ => rfl, k⟩
theorem yesP.yes {b : Bool} {n : Int} {w w' : World} (h : b = true) (k : Kp w w') : yesP b n w (.returned (.tuple #[])) w' := ⟨fun _ => rfl, fun e => (by rw [h] at e; cases e), k⟩
set_option maxRecDepth 100000 in
theorem mustNow_any (now : Int) (w : World) : Calls Tryz.prog 107 #[.int .i64 now] w (yesP (okNow now) 170 w) := by
  have kW := (Kp.refl w).alloc (.cells #[.int .i64 now] 2)
  go_enter Tryz.func107, Tryz.ntmps107
  go_wp2_with fail
  refine (within_int64 0 4611686018426387904 now _ _ (Blk.new _ _ _)).mono ?_
  rintro e w1 ⟨rfl, rfl⟩
  cases h : withB 0 4611686018426387904 now with
  | true =>
    have H := Lib.hid (show okNow now = true from h)
    go_wp2_with fail
    go_end0
    exact yesP.yes H.out kW
  | false =>
    have H := Lib.hid (show okNow now = false from h)
    go_wp2_with fail
    exact ⟨rfl, yesP.no H.out kW⟩
set_option maxRecDepth 100000 in
set_option maxHeartbeats 1000000 in
theorem mustHeard_any (h : Hd) (w : World) (ha : h.a < 4294967296) : Calls Tryz.prog 106 #[.agg #[.int .i64 h.f, .int .u32 (h.a : Int), .int .i64 h.m]] w (yesP (okHd h) 2 w) := by
  obtain ⟨b, hb⟩ : ∃ b, w.heap.size = b := ⟨_, rfl⟩
  obtain ⟨W, hW, kW, B0⟩ : ∃ W, w.alloc (.cells #[.int .i64 h.f, .int .u32 (h.a : Int), .int .i64 h.m] 31) = W ∧ Kp w W ∧ Blk W b 31 #[.int .i64 h.f, .int .u32 (h.a : Int), .int .i64 h.m] := ⟨_, rfl, (Kp.refl _).alloc _, by rw [← hb]; exact Blk.new w _ _⟩
  have c0 : W.cell? ⟨b, 0, none⟩ = some (.int .i64 h.f) := B0.cell 0
  have c1 : W.cell? ⟨b, 1, none⟩ = some (.int .u32 (h.a : Int)) := B0.cell 1
  go_enter Tryz.func106, Tryz.ntmps106
  go_wp2_with fail
  refine (mayCome_any h.f h.a _ ha).mono ?_
  rintro e w1 ⟨rfl, K1⟩
  have B1 := B0.keep K1
  have k1 := kW.trans K1
  have c2 : w1.cell? ⟨b, 2, none⟩ = some (.int .i64 h.m) := B1.cell 2
  clear c0 c1 hW
  cases h1 : mayB h.f h.a with
  | false =>
    have H := Lib.hid (show okHd h = false by unfold okHd; rw [h1]; rfl)
    go_wp2_with fail
    exact ⟨rfl, yesP.no H.out k1⟩
  | true =>
    go_wp2_with fail
    refine (within_int 1 16 h.m _ _ (Blk.new _ _ _)).mono ?_
    rintro e w2 ⟨rfl, rfl⟩
    have k2 := k1.alloc (.cells #[.int .i64 h.m] 3)
    cases h2 : withB 1 16 h.m with
    | true =>
      have H := Lib.hid (show okHd h = true by unfold okHd; rw [h1, h2]; rfl)
      go_wp2_with fail
      go_end0
      exact yesP.yes H.out k2
    | false =>
      have H := Lib.hid (show okHd h = false by unfold okHd; rw [h1, h2]; rfl)
      go_wp2_with fail
      exact ⟨rfl, yesP.no H.out k2⟩
def bothB (c : Cf) (r : Rt) : Bool := okCf c && okR r
set_option maxRecDepth 100000 in
set_option maxHeartbeats 1000000 in
theorem mustBoth_any (c : Cf) (A : Option Addr) (m : Nat) (r : Rt) (w : World) (hS : SlPI w A m c.own) (hC : CapAt w) (ha : ∀ k (hk : k < c.own.length), c.own[k].a < 4294967296) (hp : r.p.a < 4294967296) (hx : r.x < 4294967296) : Calls Tryz.prog 105 #[cfV c A c.own.length m, roV r] w (yesP (bothB c r) 2 w) := by
  obtain ⟨b, hb⟩ : ∃ b, w.heap.size = b := ⟨_, rfl⟩
  obtain ⟨W, hW, kW, B0, B1⟩ : ∃ W, (w.alloc (.cells (cfC c A c.own.length m) 24)).alloc (.cells (roC r) 48) = W ∧ Kp w W ∧ Blk W b 24 (cfC c A c.own.length m) ∧ Blk W (b + 1) 48 (roC r) := ⟨_, rfl, ((Kp.refl _).alloc _).alloc _, by rw [← hb]; exact (Blk.new w _ _).alloc _, by rw [← hb]; exact Blk.new1 w _ _ _⟩
  unfold cfC roC at hW
  have c0 : W.cell? ⟨b, 0, none⟩ = some (.int .i64 c.t0) := B0.cell 0
  have c1 : W.cell? ⟨b, 1, none⟩ = some (.int .i64 c.t1) := B0.cell 1
  have c2 : W.cell? ⟨b, 2, none⟩ = some (.int .i64 c.t2) := B0.cell 2
  have c3 : W.cell? ⟨b, 3, none⟩ = some (.int .i64 c.t3) := B0.cell 3
  have c4 : W.cell? ⟨b, 4, none⟩ = some (.int .i64 c.t4) := B0.cell 4
  have c5 : W.cell? ⟨b, 5, none⟩ = some (.int .i64 c.t5) := B0.cell 5
  have c6 : W.cell? ⟨b, 6, none⟩ = some (.int .i64 c.t6) := B0.cell 6
  have c7 : W.cell? ⟨b, 7, none⟩ = some (.int .i64 c.cap) := B0.cell 7
  have c8 : W.cell? ⟨b, 8, none⟩ = some (.slice A c.own.length m) := B0.cell 8
  have hS := hS.keep kW
  go_enter Tryz.func105, Tryz.ntmps105
  go_wp2_with fail
  refine (ccheck_any c A m _ hS.le hS.rd (hC.keep kW) ha).mono ?_
  rintro e w1 ⟨rfl, K1⟩
  have B2 := B1.keep K1
  have k1 := kW.trans K1
  clear hW c0 c1 c2 c3 c4 c5 c6 c7 c8
  have p0 : w1.cell? ⟨b + 1, 0, none⟩ = some (.int .u32 (r.p.a : Int)) := B2.cell 0
  have p1 : w1.cell? ⟨b + 1, 1, none⟩ = some (.int .i64 r.p.l) := B2.cell 1
  have p2 : w1.cell? ⟨b + 1, 2, none⟩ = some (.int .i64 r.s) := B2.cell 2
  have p3 : w1.cell? ⟨b + 1, 3, none⟩ = some (.int .i64 r.m) := B2.cell 3
  have p4 : w1.cell? ⟨b + 1, 4, none⟩ = some (.int .i64 r.l) := B2.cell 4
  have p5 : w1.cell? ⟨b + 1, 5, none⟩ = some (.int .i64 r.f) := B2.cell 5
  have p6 : w1.cell? ⟨b + 1, 6, none⟩ = some (.int .u32 (r.x : Int)) := B2.cell 6
  have p7 : w1.cell? ⟨b + 1, 7, none⟩ = some (.int .i64 r.d) := B2.cell 7
  have p8 : w1.cell? ⟨b + 1, 8, none⟩ = some (.bool r.c) := B2.cell 8
  cases h1 : okCf c with
  | false =>
    rw [show checkC c = 2 by unfold checkC; rw [h1]; rfl]
    have H := Lib.hid (show bothB c r = false by unfold bothB; rw [h1]; rfl)
    go_wp2_with fail
    exact ⟨rfl, yesP.no H.out k1⟩
  | true =>
    rw [show checkC c = 0 by unfold checkC; rw [h1]; rfl]
    go_wp2_with fail
    refine (checkR_any r _ hp hx).mono ?_
    rintro e w2 ⟨rfl, K2⟩
    have k2 := k1.trans K2
    cases h2 : okR r with
    | true =>
      rw [show checkR r = 0 by rw [checkR_ok, h2]; rfl]
      have H := Lib.hid (show bothB c r = true by unfold bothB; rw [h1, h2]; rfl)
      go_wp2_with fail
      go_end0
      exact yesP.yes H.out k2
    | false =>
      rw [show checkR r = 2 by rw [checkR_ok, h2]; rfl]
      have H := Lib.hid (show bothB c r = false by unfold bothB; rw [h1, h2]; rfl)
      go_wp2_with fail
      exact ⟨rfl, yesP.no H.out k2⟩
end Go.Proofs.YtffckpkikdlbpaaGreatDoor
