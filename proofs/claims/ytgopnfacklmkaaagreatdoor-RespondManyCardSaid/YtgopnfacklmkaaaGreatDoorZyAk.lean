/- Lemmas and contracts for the theorem of this claim: VRtA, VRtB, VGen2, VRtC, VRtD, VGen3. -/
import Derived.Test.YtgopnfacklmkaaaGreatDoorZyAe
import Derived.Deep.DeepCutAuto
set_option linter.all false
set_option maxHeartbeats 16000000
namespace Go.Proofs.YtgopnfacklmkaaaGreatDoor
section
open Go.RowKit
structure Rt where
 p : PI
 s : Int
 m : Int
 l : Int
 f : Int
 x : Nat
 d : Int
 c : Bool
def Rt.enc (r : Rt) : List Value := [.int .u32 r.p.a, .int .i64 r.p.l, .int .i64 r.s, .int .i64 r.m, .int .i64 r.l, .int .i64 r.f, .int .u32 r.x, .int .i64 r.d, .bool r.c]
theorem Rt.len (r : Rt) : r.enc.length = 9 := rfl
def toldB (p : PI) : Bool := p.okB && !badKind p.a p.l.toNat
def hasB (r : Rt) (m l : Int) : Bool := (r.m == m) && (r.l == l)
def nowB (r : Rt) : Bool := (r.f == 0) && (((r.x : Int) == 0) && (r.d == 0))
def withB (lo hi n : Int) : Bool := !(decide (n < lo)) && !(decide (hi < n))
def mayB (f : Int) (x : Nat) : Bool := withB 0 15 f && ((kindAd x : Int) == 6)
def someB (r : Rt) : Bool := mayB r.f r.x && withB 0 4611686018427387904 r.d
def stateB (r : Rt) : Bool :=
 if r.s = 0 then hasB r 0 0 && (nowB r && !r.c)
 else if r.s = 1 then hasB r 1 0 && nowB r
 else if r.s = 2 then withB 2 15 r.m && (hasB r r.m 0 && someB r)
 else if r.s = 3 then withB 2 15 r.l && (hasB r 16 r.l && someB r)
 else if r.s = 4 then hasB r 16 0 && someB r
 else false
def checkR (r : Rt) : Int := if stateB r && toldB r.p then 0 else 2
set_option maxRecDepth 100000 in
theorem vbd (lo hi n : Int) (g : Nat) (w : World) (hB : Blk w g 3 #[.int .i64 n]) : Calls Tryz.prog 178 #[.int .i64 lo, .int .i64 hi, .slice (some ⟨g, 0, none⟩) 1 1] w fun e w' => e = .returned (.bool (withB lo hi n)) ∧ w = w' := by
 have c0 : w.cell? ⟨g, 0, none⟩ = some (.int .i64 n) := hB.cell 0
 clear hB
 go_enter Tryz.func178, Tryz.ntmps178
 go_wp2_with fail
 go_loop [11] (fun i => ∃ k : Nat, k ≤ 1 ∧ i = .int .i64 k ∧ Hid (k = 1 → withB lo hi n = true)) (fun i => 1 - (intOf i).toNat)
 case atStart => exact ⟨0, by omega, rfl, fun h => absurd h (by omega)⟩
 case round =>
  obtain ⟨k, hk, rfl, hall⟩ := hrel
  have hk2 : k = 0 ∨ k = 1 := by omega
  rcases hk2 with rfl | rfl
  ·cases h1 : decide (n < lo) with
   | true =>
    have H := Lib.hid (show withB lo hi n = false by simp only [withB, h1]; rfl)
    go_wp2_with fail
    go_ret
    exact ⟨by rw [H.out]; rfl, rfl⟩
   | false =>
    cases h2 : decide (hi < n) with
    | true =>
     have H := Lib.hid (show withB lo hi n = false by simp only [withB, h1, h2]; rfl)
     go_wp2_with fail
     go_ret
     exact ⟨by rw [H.out]; rfl, rfl⟩
    | false =>
     have H := Lib.hid (show withB lo hi n = true by simp only [withB, h1, h2]; rfl)
     go_wp2_with fail
     go_round
     case rel => exact ⟨1, by omega, by go_num, fun _ => H.out⟩
     case measure => simp [intOf] <;> omega
  ·have H := Lib.hid (hall.out rfl)
   clear hall
   go_wp2_with fail
   go_ret
   exact ⟨by rw [H.out]; rfl, rfl⟩
set_option maxRecDepth 100000 in
theorem vbY (lo hi n : Int) (g : Nat) (w : World) (hB : Blk w g 2 #[.int .i64 n]) : Calls Tryz.prog 179 #[.int .i64 lo, .int .i64 hi, .slice (some ⟨g, 0, none⟩) 1 1] w fun e w' => e = .returned (.bool (withB lo hi n)) ∧ w = w' := by
 have c0 : w.cell? ⟨g, 0, none⟩ = some (.int .i64 n) := hB.cell 0
 clear hB
 go_enter Tryz.func179, Tryz.ntmps179
 go_wp2_with fail
 go_loop [11] (fun i => ∃ k : Nat, k ≤ 1 ∧ i = .int .i64 k ∧ Hid (k = 1 → withB lo hi n = true)) (fun i => 1 - (intOf i).toNat)
 case atStart => exact ⟨0, by omega, rfl, fun h => absurd h (by omega)⟩
 case round =>
  obtain ⟨k, hk, rfl, hall⟩ := hrel
  have hk2 : k = 0 ∨ k = 1 := by omega
  rcases hk2 with rfl | rfl
  ·cases h1 : decide (n < lo) with
   | true =>
    have H := Lib.hid (show withB lo hi n = false by simp only [withB, h1]; rfl)
    go_wp2_with fail
    go_ret
    exact ⟨by rw [H.out]; rfl, rfl⟩
   | false =>
    cases h2 : decide (hi < n) with
    | true =>
     have H := Lib.hid (show withB lo hi n = false by simp only [withB, h1, h2]; rfl)
     go_wp2_with fail
     go_ret
     exact ⟨by rw [H.out]; rfl, rfl⟩
    | false =>
     have H := Lib.hid (show withB lo hi n = true by simp only [withB, h1, h2]; rfl)
     go_wp2_with fail
     go_round
     case rel => exact ⟨1, by omega, by go_num, fun _ => H.out⟩
     case measure => simp [intOf] <;> omega
  ·have H := Lib.hid (hall.out rfl)
   clear hall
   go_wp2_with fail
   go_ret
   exact ⟨by rw [H.out]; rfl, rfl⟩
set_option maxRecDepth 100000 in
theorem vbx (r : Rt) (m l : Int) (w : World) : Calls Tryz.prog 245 #[.agg #[.int .u32 r.p.a, .int .i64 r.p.l, .int .i64 r.s, .int .i64 r.m, .int .i64 r.l, .int .i64 r.f, .int .u32 r.x, .int .i64 r.d, .bool r.c], .int .i64 m, .int .i64 l] w fun e w' => e = .returned (.bool (hasB r m l)) ∧ Kp w w' := by
 obtain ⟨W, hW, kW, B0⟩ := Blk.al1 (w := w) rfl #[.int .u32 r.p.a, .int .i64 r.p.l, .int .i64 r.s, .int .i64 r.m, .int .i64 r.l, .int .i64 r.f, .int .u32 r.x, .int .i64 r.d, .bool r.c] 255
 have c0 := Blk.f B0 rfl
 cases h1 : (r.m == m) with
 | true =>
  have H := Lib.hid (show hasB r m l = (r.l == l) by simp only [hasB, h1, Bool.true_and])
  go_enter Tryz.func245, Tryz.ntmps245
  go_wp2_with fail
  go_ret
  exact ⟨by rw [H.out]; rfl, kW⟩
 | false =>
  have H := Lib.hid (show hasB r m l = false by simp only [hasB, h1, Bool.false_and])
  go_enter Tryz.func245, Tryz.ntmps245
  go_wp2_with fail
  go_ret
  exact ⟨by rw [H.out]; rfl, kW⟩
set_option maxRecDepth 100000 in
theorem vcv (r : Rt) (w : World) : Calls Tryz.prog 246 #[.agg #[.int .u32 r.p.a, .int .i64 r.p.l, .int .i64 r.s, .int .i64 r.m, .int .i64 r.l, .int .i64 r.f, .int .u32 r.x, .int .i64 r.d, .bool r.c]] w fun e w' => e = .returned (.bool (nowB r)) ∧ Kp w w' := by
 obtain ⟨W, hW, kW, B0⟩ := Blk.al1 (w := w) rfl #[.int .u32 r.p.a, .int .i64 r.p.l, .int .i64 r.s, .int .i64 r.m, .int .i64 r.l, .int .i64 r.f, .int .u32 r.x, .int .i64 r.d, .bool r.c] 255
 have c0 := Blk.f B0 rfl
 cases h1 : (r.f == 0) with
 | true =>
  cases h2 : ((r.x : Int) == 0) with
  | true =>
   have H := Lib.hid (show nowB r = (r.d == 0) by simp only [nowB, h1, h2, Bool.true_and])
   go_enter Tryz.func246, Tryz.ntmps246
   go_wp2_with fail
   go_ret
   exact ⟨by rw [H.out]; rfl, kW⟩
  | false =>
   have H := Lib.hid (show nowB r = false by simp only [nowB, h1, h2, Bool.true_and, Bool.false_and])
   go_enter Tryz.func246, Tryz.ntmps246
   go_wp2_with fail
   go_ret
   exact ⟨by rw [H.out]; rfl, kW⟩
 | false =>
  have H := Lib.hid (show nowB r = false by simp only [nowB, h1, Bool.false_and])
  go_enter Tryz.func246, Tryz.ntmps246
  go_wp2_with fail
  go_ret
  exact ⟨by rw [H.out]; rfl, kW⟩
set_option maxRecDepth 100000 in
theorem vcw (f : Int) (x : Nat) (w : World) (hx : x < 4294967296) : Calls Tryz.prog 177 #[.int .i64 f, .int .u32 x] w fun e w' => e = .returned (.bool (mayB f x)) ∧ Kp w w' := by
 go_enter Tryz.func177, Tryz.ntmps177
 go_wp2_with fail
 refine (vbd 0 15 f w.heap.size _ (Blk.new w _ _)).mono ?_
 rintro e w1 ⟨rfl, rfl⟩
 cases h1 : withB 0 15 f with
 | true =>
  have H := Lib.hid (show mayB f x = ((kindAd x : Int) == 6) by simp only [mayB, h1, Bool.true_and])
  go_wp2_with fail
  refine (vcR x _ hx).mono ?_
  rintro e w2 ⟨rfl, hK2⟩
  go_wp2_with fail
  go_ret
  exact ⟨by rw [H.out]; rfl, ((Kp.refl _).alloc _).trans hK2⟩
 | false =>
  have H := Lib.hid (show mayB f x = false by simp only [mayB, h1, Bool.false_and])
  go_wp2_with fail
  go_ret
  exact ⟨by rw [H.out]; rfl, (Kp.refl _).alloc _⟩
set_option maxRecDepth 100000 in
theorem vdv (r : Rt) (w : World) (hx : r.x < 4294967296) : Calls Tryz.prog 249 #[.agg #[.int .u32 r.p.a, .int .i64 r.p.l, .int .i64 r.s, .int .i64 r.m, .int .i64 r.l, .int .i64 r.f, .int .u32 r.x, .int .i64 r.d, .bool r.c]] w fun e w' => e = .returned (.bool (someB r)) ∧ Kp w w' := by
 obtain ⟨W, hW, kW, B0⟩ := Blk.al1 (w := w) rfl #[.int .u32 r.p.a, .int .i64 r.p.l, .int .i64 r.s, .int .i64 r.m, .int .i64 r.l, .int .i64 r.f, .int .u32 r.x, .int .i64 r.d, .bool r.c] 255
 have c0 := Blk.f B0 rfl
 go_enter Tryz.func249, Tryz.ntmps249
 go_wp2_with fail
 refine (vcw r.f r.x _ hx).mono ?_
 rintro e w1 ⟨rfl, hK1⟩
 have k1 := kW.trans hK1
 have B1 := B0.keep hK1
 have d7 := Blk.f B1 rfl
 clear hW c0
 cases h1 : mayB r.f r.x with
 | true =>
  have H := Lib.hid (show someB r = withB 0 4611686018427387904 r.d by simp only [someB, h1, Bool.true_and])
  go_wp2_with fail
  refine (vbY 0 4611686018427387904 r.d w1.heap.size _ (Blk.new w1 _ _)).mono ?_
  rintro e w2 ⟨rfl, rfl⟩
  go_wp2_with fail
  go_ret
  exact ⟨by rw [H.out]; rfl, k1.alloc _⟩
 | false =>
  have H := Lib.hid (show someB r = false by simp only [someB, h1, Bool.false_and])
  go_wp2_with fail
  go_ret
  exact ⟨by rw [H.out]; rfl, k1⟩
set_option maxRecDepth 100000 in
theorem vkp (r : Rt) (w : World) : Calls Tryz.prog 244 #[.agg #[.int .u32 r.p.a, .int .i64 r.p.l, .int .i64 r.s, .int .i64 r.m, .int .i64 r.l, .int .i64 r.f, .int .u32 r.x, .int .i64 r.d, .bool r.c]] w fun e w' => e = .returned (.bool (hasB r 0 0 && (nowB r && !r.c))) ∧ Kp w w' := by
 obtain ⟨W, hW, kW, B0⟩ := Blk.al1 (w := w) rfl #[.int .u32 r.p.a, .int .i64 r.p.l, .int .i64 r.s, .int .i64 r.m, .int .i64 r.l, .int .i64 r.f, .int .u32 r.x, .int .i64 r.d, .bool r.c] 255
 have c0 := Blk.f B0 rfl
 go_enter Tryz.func244, Tryz.ntmps244
 go_wp2_with fail
 refine (vbx r 0 0 _).mono ?_
 rintro e w1 ⟨rfl, hK1⟩
 have k1 := kW.trans hK1
 have B1 := B0.keep hK1
 clear hW c0
 have c0 := Blk.f B1 rfl
 cases h1 : hasB r 0 0 with
 | true =>
  go_wp2_with fail
  refine (vcv r _).mono ?_
  rintro e w2 ⟨rfl, hK2⟩
  have k2 := k1.trans hK2
  have B2 := B1.keep hK2
  have f8 := Blk.f B2 rfl
  clear c0
  cases h2 : nowB r with
  | true =>
   have H := Lib.hid (show (hasB r 0 0 && (nowB r && !r.c)) = !r.c by simp only [h1, h2, Bool.true_and])
   go_wp2_with fail
   go_ret
   exact ⟨by rw [H.out]; rfl, k2⟩
  | false =>
   have H := Lib.hid (show (hasB r 0 0 && (nowB r && !r.c)) = false by simp only [h1, h2, Bool.true_and, Bool.false_and])
   go_wp2_with fail
   go_ret
   exact ⟨by rw [H.out]; rfl, k2⟩
 | false =>
  have H := Lib.hid (show (hasB r 0 0 && (nowB r && !r.c)) = false by simp only [h1, Bool.false_and])
  go_wp2_with fail
  go_ret
  exact ⟨by rw [H.out]; rfl, k1⟩
set_option maxRecDepth 100000 in
theorem vkq (r : Rt) (w : World) : Calls Tryz.prog 247 #[.agg #[.int .u32 r.p.a, .int .i64 r.p.l, .int .i64 r.s, .int .i64 r.m, .int .i64 r.l, .int .i64 r.f, .int .u32 r.x, .int .i64 r.d, .bool r.c]] w fun e w' => e = .returned (.bool (hasB r 1 0 && nowB r)) ∧ Kp w w' := by
 obtain ⟨W, hW, kW, B0⟩ := Blk.al1 (w := w) rfl #[.int .u32 r.p.a, .int .i64 r.p.l, .int .i64 r.s, .int .i64 r.m, .int .i64 r.l, .int .i64 r.f, .int .u32 r.x, .int .i64 r.d, .bool r.c] 255
 have c0 := Blk.f B0 rfl
 go_enter Tryz.func247, Tryz.ntmps247
 go_wp2_with fail
 refine (vbx r 1 0 _).mono ?_
 rintro e w1 ⟨rfl, hK1⟩
 have k1 := kW.trans hK1
 have B1 := B0.keep hK1
 clear hW c0
 have c0 := Blk.f B1 rfl
 cases h1 : hasB r 1 0 with
 | true =>
  go_wp2_with fail
  refine (vcv r _).mono ?_
  rintro e w2 ⟨rfl, hK2⟩
  have k2 := k1.trans hK2
  have H := Lib.hid (show (hasB r 1 0 && nowB r) = nowB r by simp only [h1, Bool.true_and])
  clear c0
  go_wp2_with fail
  go_ret
  exact ⟨by rw [H.out]; rfl, k2⟩
 | false =>
  have H := Lib.hid (show (hasB r 1 0 && nowB r) = false by simp only [h1, Bool.false_and])
  go_wp2_with fail
  go_ret
  exact ⟨by rw [H.out]; rfl, k1⟩
set_option maxRecDepth 100000 in
theorem vkr (r : Rt) (w : World) (hx : r.x < 4294967296) : Calls Tryz.prog 251 #[.agg #[.int .u32 r.p.a, .int .i64 r.p.l, .int .i64 r.s, .int .i64 r.m, .int .i64 r.l, .int .i64 r.f, .int .u32 r.x, .int .i64 r.d, .bool r.c]] w fun e w' => e = .returned (.bool (hasB r 16 0 && someB r)) ∧ Kp w w' := by
 obtain ⟨W, hW, kW, B0⟩ := Blk.al1 (w := w) rfl #[.int .u32 r.p.a, .int .i64 r.p.l, .int .i64 r.s, .int .i64 r.m, .int .i64 r.l, .int .i64 r.f, .int .u32 r.x, .int .i64 r.d, .bool r.c] 255
 have c0 := Blk.f B0 rfl
 go_enter Tryz.func251, Tryz.ntmps251
 go_wp2_with fail
 refine (vbx r 16 0 _).mono ?_
 rintro e w1 ⟨rfl, hK1⟩
 have k1 := kW.trans hK1
 have B1 := B0.keep hK1
 clear hW c0
 have c0 := Blk.f B1 rfl
 cases h1 : hasB r 16 0 with
 | true =>
  go_wp2_with fail
  refine (vdv r _ hx).mono ?_
  rintro e w2 ⟨rfl, hK2⟩
  have k2 := k1.trans hK2
  have H := Lib.hid (show (hasB r 16 0 && someB r) = someB r by simp only [h1, Bool.true_and])
  clear c0
  go_wp2_with fail
  go_ret
  exact ⟨by rw [H.out]; rfl, k2⟩
 | false =>
  have H := Lib.hid (show (hasB r 16 0 && someB r) = false by simp only [h1, Bool.false_and])
  go_wp2_with fail
  go_ret
  exact ⟨by rw [H.out]; rfl, k1⟩
set_option maxRecDepth 100000 in
theorem vks (r : Rt) (w : World) (hx : r.x < 4294967296) : Calls Tryz.prog 248 #[.agg #[.int .u32 r.p.a, .int .i64 r.p.l, .int .i64 r.s, .int .i64 r.m, .int .i64 r.l, .int .i64 r.f, .int .u32 r.x, .int .i64 r.d, .bool r.c]] w fun e w' => e = .returned (.bool (withB 2 15 r.m && (hasB r r.m 0 && someB r))) ∧ Kp w w' := by
 obtain ⟨W, hW, kW, B0⟩ := Blk.al1 (w := w) rfl #[.int .u32 r.p.a, .int .i64 r.p.l, .int .i64 r.s, .int .i64 r.m, .int .i64 r.l, .int .i64 r.f, .int .u32 r.x, .int .i64 r.d, .bool r.c] 255
 have c0 := Blk.f B0 rfl
 go_enter Tryz.func248, Tryz.ntmps248
 go_wp2_with fail
 refine (vbd 2 15 r.m W.heap.size _ (Blk.new W _ _)).mono ?_
 rintro e w1 ⟨rfl, rfl⟩
 have k1 := kW.alloc (.cells #[.int .i64 r.m] 3)
 have B1 := B0.alloc (.cells #[.int .i64 r.m] 3)
 obtain ⟨V, hV⟩ : ∃ V, W.alloc (.cells #[.int .i64 r.m] 3) = V := ⟨_, rfl⟩
 rw [hV] at k1 B1 ⊢
 clear hW c0
 clear hV
 have c0 := Blk.f B1 rfl
 cases h0 : withB 2 15 r.m with
 | true =>
  go_wp2_with fail
  refine (vbx r r.m 0 _).mono ?_
  rintro e w2 ⟨rfl, hK2⟩
  have k2 := k1.trans hK2
  have B2 := B1.keep hK2
  clear c0
  have c0 := Blk.f B2 rfl
  cases h1 : hasB r r.m 0 with
  | true =>
   go_wp2_with fail
   refine (vdv r _ hx).mono ?_
   rintro e w3 ⟨rfl, hK3⟩
   have k3 := k2.trans hK3
   have H := Lib.hid (show (withB 2 15 r.m && (hasB r r.m 0 && someB r)) = someB r by simp only [h0, h1, Bool.true_and])
   clear c0
   go_wp2_with fail
   go_ret
   exact ⟨by rw [H.out]; rfl, k3⟩
  | false =>
   have H := Lib.hid (show (withB 2 15 r.m && (hasB r r.m 0 && someB r)) = false by simp only [h0, h1, Bool.true_and, Bool.false_and])
   go_wp2_with fail
   go_ret
   exact ⟨by rw [H.out]; rfl, k2⟩
 | false =>
  have H := Lib.hid (show (withB 2 15 r.m && (hasB r r.m 0 && someB r)) = false by simp only [h0, Bool.false_and])
  go_wp2_with fail
  go_ret
  exact ⟨by rw [H.out]; rfl, k1⟩
set_option maxRecDepth 100000 in
theorem vkt (r : Rt) (w : World) (hx : r.x < 4294967296) : Calls Tryz.prog 250 #[.agg #[.int .u32 r.p.a, .int .i64 r.p.l, .int .i64 r.s, .int .i64 r.m, .int .i64 r.l, .int .i64 r.f, .int .u32 r.x, .int .i64 r.d, .bool r.c]] w fun e w' => e = .returned (.bool (withB 2 15 r.l && (hasB r 16 r.l && someB r))) ∧ Kp w w' := by
 obtain ⟨W, hW, kW, B0⟩ := Blk.al1 (w := w) rfl #[.int .u32 r.p.a, .int .i64 r.p.l, .int .i64 r.s, .int .i64 r.m, .int .i64 r.l, .int .i64 r.f, .int .u32 r.x, .int .i64 r.d, .bool r.c] 255
 have c0 := Blk.f B0 rfl
 go_enter Tryz.func250, Tryz.ntmps250
 go_wp2_with fail
 refine (vbd 2 15 r.l W.heap.size _ (Blk.new W _ _)).mono ?_
 rintro e w1 ⟨rfl, rfl⟩
 have k1 := kW.alloc (.cells #[.int .i64 r.l] 3)
 have B1 := B0.alloc (.cells #[.int .i64 r.l] 3)
 obtain ⟨V, hV⟩ : ∃ V, W.alloc (.cells #[.int .i64 r.l] 3) = V := ⟨_, rfl⟩
 rw [hV] at k1 B1 ⊢
 clear hW c0
 clear hV
 have c0 := Blk.f B1 rfl
 cases h0 : withB 2 15 r.l with
 | true =>
  go_wp2_with fail
  refine (vbx r 16 r.l _).mono ?_
  rintro e w2 ⟨rfl, hK2⟩
  have k2 := k1.trans hK2
  have B2 := B1.keep hK2
  clear c0
  have c0 := Blk.f B2 rfl
  cases h1 : hasB r 16 r.l with
  | true =>
   go_wp2_with fail
   refine (vdv r _ hx).mono ?_
   rintro e w3 ⟨rfl, hK3⟩
   have k3 := k2.trans hK3
   have H := Lib.hid (show (withB 2 15 r.l && (hasB r 16 r.l && someB r)) = someB r by simp only [h0, h1, Bool.true_and])
   clear c0
   go_wp2_with fail
   go_ret
   exact ⟨by rw [H.out]; rfl, k3⟩
  | false =>
   have H := Lib.hid (show (withB 2 15 r.l && (hasB r 16 r.l && someB r)) = false by simp only [h0, h1, Bool.true_and, Bool.false_and])
   go_wp2_with fail
   go_ret
   exact ⟨by rw [H.out]; rfl, k2⟩
 | false =>
  have H := Lib.hid (show (withB 2 15 r.l && (hasB r 16 r.l && someB r)) = false by simp only [h0, Bool.false_and])
  go_wp2_with fail
  go_ret
  exact ⟨by rw [H.out]; rfl, k1⟩
def OfPost (p : PI) (w : World) (e : Ending) (w' : World) : Prop := ∃ x0 x1 x2 x3 x4 x5 : Int, e = .returned (.tuple #[.agg #[.int .i64 x0, .int .i64 x1, .int .u32 x2, .int .u32 x3, .int .u32 x4, .int .u32 x5], .int .i64 (if toldB p then 0 else 2)]) ∧ Kp w w'
theorem vgF {p : PI} (ha : p.a < 4294967296) : goodP p = toldB p := by
 unfold goodP toldB
 cases hok : p.okB with
 | false => rfl
 | true => rw [vgu p.a (show p.l.toNat ≤ 32 from (pn_ok hok ha).1.2.1)]
theorem vjs (p : PI) (w : World) (ha : p.a < 4294967296) : Calls Tryz.prog 163 #[.agg #[.int .u32 p.a, .int .i64 p.l], .int .i64 1] w (OfPost p w) :=
 (of_g p 1 w ha).mono (fun e w' h => by
  obtain ⟨rfl, k⟩ := h
  have e2 : ofN p 1 = if toldB p then 0 else 2 := by
   unfold ofN
   rw [vgF ha]
   simp
  exact ⟨_, _, _, _, _, _, by rw [e2], k⟩)
set_option maxRecDepth 100000 in
theorem vfy (r : Rt) (w : World) (ha : r.p.a < 4294967296) : Calls Tryz.prog 173 #[.agg #[.int .u32 r.p.a, .int .i64 r.p.l, .int .i64 r.s, .int .i64 r.m, .int .i64 r.l, .int .i64 r.f, .int .u32 r.x, .int .i64 r.d, .bool r.c]] w fun e w' => e = .returned (.bool (toldB r.p)) ∧ Kp w w' := by
 go_enter Tryz.func173, Tryz.ntmps173
 go_wp2_with fail
 refine (vjs r.p _ ha).mono ?_
 rintro e w1 ⟨x0, x1, x2, x3, x4, x5, rfl, hK1⟩
 have k1 : Kp w w1 := ((Kp.refl _).alloc _).trans hK1
 cases h : toldB r.p with
 | true =>
  have H := Lib.hid h; clear h
  simp only [if_true]
  go_wp2_with fail
  go_ret
  exact ⟨by rw [H.out]; rfl, k1.alloc _⟩
 | false =>
  have H := Lib.hid h; clear h
  simp only [Bool.false_eq_true, if_false]
  go_wp2_with fail
  go_ret
  exact ⟨by rw [H.out]; rfl, k1.alloc _⟩
theorem vcx (w : World) (n : Nat) (e : Bool) (k : Int) : (Instr.checkKey e (n + 1) 50 (.int .i64 k)).run Tryz.prog w = .ok () w := by
 unfold Instr.checkKey
 simp [run_underlying Tryz.underlying50, Result.andThen]
theorem vdw (w : World) (k : Int) (es : List MapEntry) {r : Option (Nat × Value)} (h : Instr.findNow (.int .i64) (.int .i64 k) es 0 = some r) : (Instr.findKey 50 (.int .i64 k) es).run Tryz.prog w = .ok r w := by
 unfold Instr.findKey
 simp [run_underlying Tryz.underlying50, Result.andThen, h]
theorem vku (w : World) (o o' : Obj) : ({ w.alloc o with heap := (w.alloc o).heap.setIfInBounds w.heap.size o' } : World) = w.alloc o' := by
 have h : (w.heap.push o).setIfInBounds w.heap.size o' = w.heap.push o' := by
  apply Array.ext_getElem?
  intro i
  rw [Array.getElem?_setIfInBounds, Array.getElem?_push, Array.getElem?_push]
  by_cases e : w.heap.size = i
  ·subst e; simp
  ·simp [e, Ne.symm e]
 unfold World.alloc
 simp only [h]
theorem vcy (w : World) (es : Array MapEntry) (clock : Nat) (k : Int) (v : Value) (h : Instr.findNow (.int .i64) (.int .i64 k) es.toList 0 = some none) :
  (Instr.mapUpdate 300 (.map (some w.heap.size)) (.int .i64 k) v).run Tryz.prog (w.alloc (.map es clock)) = .ok () (w.alloc (.map (es.push { key := .int .i64 k, val := v, born := clock }) (clock + 1))) := by
 have hb : (w.alloc (.map es clock)).heap[w.heap.size]? = some (.map es clock) := World.alloc_heap_new w _
 unfold Instr.mapUpdate
 simp [run_underlying Tryz.underlying300, MapKept.run_getObj_map hb, vcx, vdw _ _ _ h, MapKept.run_setObj_map _ hb, Result.andThen]
 exact vku w _ _
theorem ins0 (w : World) (v0 : Value) : (Instr.mapUpdate 300 (.map (some w.heap.size)) (.int .i64 0) v0).run Tryz.prog (w.alloc (.map #[] 0)) = .ok () (w.alloc (.map #[{ key := .int .i64 0, val := v0, born := 0 }] 1)) := vcy w #[] 0 0 v0 rfl
theorem ins1 (w : World) (v0 v1 : Value) : (Instr.mapUpdate 300 (.map (some w.heap.size)) (.int .i64 1) v1).run Tryz.prog (w.alloc (.map #[{ key := .int .i64 0, val := v0, born := 0 }] 1)) = .ok () (w.alloc (.map #[{ key := .int .i64 0, val := v0, born := 0 }, { key := .int .i64 1, val := v1, born := 1 }] 2)) := vcy w #[{ key := .int .i64 0, val := v0, born := 0 }] 1 1 v1 rfl
theorem ins2 (w : World) (v0 v1 v2 : Value) : (Instr.mapUpdate 300 (.map (some w.heap.size)) (.int .i64 2) v2).run Tryz.prog (w.alloc (.map #[{ key := .int .i64 0, val := v0, born := 0 }, { key := .int .i64 1, val := v1, born := 1 }] 2)) = .ok () (w.alloc (.map #[{ key := .int .i64 0, val := v0, born := 0 }, { key := .int .i64 1, val := v1, born := 1 }, { key := .int .i64 2, val := v2, born := 2 }] 3)) := vcy w #[{ key := .int .i64 0, val := v0, born := 0 }, { key := .int .i64 1, val := v1, born := 1 }] 2 2 v2 rfl
theorem ins3 (w : World) (v0 v1 v2 v3 : Value) : (Instr.mapUpdate 300 (.map (some w.heap.size)) (.int .i64 3) v3).run Tryz.prog (w.alloc (.map #[{ key := .int .i64 0, val := v0, born := 0 }, { key := .int .i64 1, val := v1, born := 1 }, { key := .int .i64 2, val := v2, born := 2 }] 3)) = .ok () (w.alloc (.map #[{ key := .int .i64 0, val := v0, born := 0 }, { key := .int .i64 1, val := v1, born := 1 }, { key := .int .i64 2, val := v2, born := 2 }, { key := .int .i64 3, val := v3, born := 3 }] 4)) := vcy w #[{ key := .int .i64 0, val := v0, born := 0 }, { key := .int .i64 1, val := v1, born := 1 }, { key := .int .i64 2, val := v2, born := 2 }] 3 3 v3 rfl
theorem ins4 (w : World) (v0 v1 v2 v3 v4 : Value) : (Instr.mapUpdate 300 (.map (some w.heap.size)) (.int .i64 4) v4).run Tryz.prog (w.alloc (.map #[{ key := .int .i64 0, val := v0, born := 0 }, { key := .int .i64 1, val := v1, born := 1 }, { key := .int .i64 2, val := v2, born := 2 }, { key := .int .i64 3, val := v3, born := 3 }] 4)) = .ok () (w.alloc (.map #[{ key := .int .i64 0, val := v0, born := 0 }, { key := .int .i64 1, val := v1, born := 1 }, { key := .int .i64 2, val := v2, born := 2 }, { key := .int .i64 3, val := v3, born := 3 }, { key := .int .i64 4, val := v4, born := 4 }] 5)) := vcy w #[{ key := .int .i64 0, val := v0, born := 0 }, { key := .int .i64 1, val := v1, born := 1 }, { key := .int .i64 2, val := v2, born := 2 }, { key := .int .i64 3, val := v3, born := 3 }] 4 4 v4 rfl
def stFn : Nat → FuncId
 | 0 => 244
 | 1 => 247
 | 2 => 248
 | 3 => 250
 | _ => 251
def stV (k : Nat) : Value := .iface 302 (.func (.func (stFn k)) #[] #[])
def stE (k : Nat) : MapEntry := { key := .int .i64 k, val := stV k, born := k }
set_option maxRecDepth 100000 in
theorem vcX (w : World) : Calls Tryz.prog 172 #[] w fun e w' => e = .returned (.map (some w.heap.size)) ∧ w' = w.alloc (.map #[stE 0, stE 1, stE 2, stE 3, stE 4] 5) := by
 have hmm := @run_makeMap Tryz.prog
 have i0 := ins0 w
 have i1 := ins1 w
 have i2 := ins2 w
 have i3 := ins3 w
 have i4 := ins4 w
 go_enter Tryz.func172, Tryz.ntmps172
 go_wp2_with fail
 go_ret
 exact ⟨rfl, rfl⟩
theorem vkv (k : Int) : Instr.findNow (.int .i64) (.int .i64 k) [stE 0, stE 1, stE 2, stE 3, stE 4] 0 =
  some (if k = 0 then some (0, stV 0) else if k = 1 then some (1, stV 1) else if k = 2 then some (2, stV 2) else if k = 3 then some (3, stV 3) else if k = 4 then some (4, stV 4) else none) := by
 have hb : ∀ (a b : Int), (a == b) = decide (a = b) := fun a b => by cases h : a == b <;> simp_all
 simp only [Instr.findNow, Instr.sameNow, stE, if_true, hb]
 by_cases h0 : k = 0
 ·simp [h0]
 ·by_cases h1 : k = 1
  ·simp [h1]
  ·by_cases h2 : k = 2
   ·simp [h2]
   ·by_cases h3 : k = 3
    ·simp [h3]
    ·by_cases h4 : k = 4
     ·simp [h4]
     ·simp [h0, h1, h2, h3, h4]
theorem vii (w : World) (r : Nat) (hr : w.heap[r]? = some (.map #[stE 0, stE 1, stE 2, stE 3, stE 4] 5)) (k : Int) (j : Nat) (v : Value) (h : Instr.findNow (.int .i64) (.int .i64 k) [stE 0, stE 1, stE 2, stE 3, stE 4] 0 = some (some (j, v))) :
  (Instr.lookup 300 (.map (some r)) (.int .i64 k) true).run Tryz.prog w = .ok (.tuple #[v, .bool true]) w := by
 unfold Instr.lookup
 simp [run_underlying Tryz.underlying300, MapKept.run_getObj_map hr, vcx, vdw _ _ _ h, Result.andThen]
theorem vgG (w : World) : (zeroValue 20).run Tryz.prog w = .ok .nilIface w := by kernel_rfl
theorem vgH (w : World) (r : Nat) (hr : w.heap[r]? = some (.map #[stE 0, stE 1, stE 2, stE 3, stE 4] 5)) (k : Int) (h : Instr.findNow (.int .i64) (.int .i64 k) [stE 0, stE 1, stE 2, stE 3, stE 4] 0 = some none) :
  (Instr.lookup 300 (.map (some r)) (.int .i64 k) true).run Tryz.prog w = .ok (.tuple #[.nilIface, .bool false]) w := by
 unfold Instr.lookup
 simp [run_underlying Tryz.underlying300, MapKept.run_getObj_map hr, vcx, vdw _ _ _ h, Result.andThen, vgG]
end

section
theorem vfz {P : Program} {Q : Exit → Act → World → Prop} {a : Act} {w : World} {fuel : Nat} {L : List Oper} {listed : Array Bool} (k : Nat) (hf : fuel = (L.drop k).length)
  (hB : Region.seqB .any L.toArray (L.drop k).length k listed = true) (h : wpList P L.toArray Q (L.drop k) a w) : wpAny P .any L.toArray Q fuel listed a w := by
 subst hf
 exact wpAny_of_seq (L.drop k) k listed a w (fun j => by simp) hB h
end

section
open Go.RowKit
theorem vgI (w : World) (f : FuncId) : (Instr.typeAssert (.iface 302 (.func (.func f) #[] #[])) 20 302 false).run Tryz.prog w = .ok (.func (.func f) #[] #[]) w := by kernel_rfl
set_option maxRecDepth 100000 in
theorem vaV (r : Rt) (j : Nat) (fid : FuncId) (b : Bool) (w : World) (ha : r.p.a < 4294967296) (hf : Instr.findNow (.int .i64) (.int .i64 r.s) [stE 0, stE 1, stE 2, stE 3, stE 4] 0 = some (some (j, .iface 302 (.func (.func fid) #[] #[]))))
  (hc : ∀ args w, (callFunc fid args).run Tryz.prog w = .ok (.enter fid args) w) (hst : ∀ w, Calls Tryz.prog fid #[.agg #[.int .u32 r.p.a, .int .i64 r.p.l, .int .i64 r.s, .int .i64 r.m, .int .i64 r.l, .int .i64 r.f, .int .u32 r.x, .int .i64 r.d, .bool r.c]] w fun e w' => e = .returned (.bool b) ∧ Kp w w') :
  Calls Tryz.prog 118 #[.agg #[.int .u32 r.p.a, .int .i64 r.p.l, .int .i64 r.s, .int .i64 r.m, .int .i64 r.l, .int .i64 r.f, .int .u32 r.x, .int .i64 r.d, .bool r.c]] w fun e w' => e = .returned (.int .i64 (if b && toldB r.p then 0 else 2)) ∧ Kp w w' := by
 obtain ⟨T, hT⟩ : ∃ T, toldB r.p = T := ⟨_, rfl⟩
 rw [hT]
 have HT := Lib.hid hT; clear hT
 have Hf := Lib.hid hf; clear hf
 have Hst := Lib.hid hst; clear hst
 have hta := vgI
 obtain ⟨W, hW, kW, B0, B1⟩ : ∃ W, (w.alloc (.cells #[.int .u32 r.p.a, .int .i64 r.p.l, .int .i64 r.s, .int .i64 r.m, .int .i64 r.l, .int .i64 r.f, .int .u32 r.x, .int .i64 r.d, .bool r.c] 52)).alloc (.cells #[.int .u32 r.p.a, .int .i64 r.p.l, .int .i64 r.s, .int .i64 r.m, .int .i64 r.l, .int .i64 r.f, .int .u32 r.x, .int .i64 r.d, .bool r.c] 255) = W ∧ Kp w W ∧ Blk W w.heap.size 52 #[.int .u32 r.p.a, .int .i64 r.p.l, .int .i64 r.s, .int .i64 r.m, .int .i64 r.l, .int .i64 r.f, .int .u32 r.x, .int .i64 r.d, .bool r.c] ∧ Blk W (w.heap.size + 1) 255 #[.int .u32 r.p.a, .int .i64 r.p.l, .int .i64 r.s, .int .i64 r.m, .int .i64 r.l, .int .i64 r.f, .int .u32 r.x, .int .i64 r.d, .bool r.c] :=
  ⟨_, rfl, ((Kp.refl _).alloc _).alloc _, (Blk.new w _ _).alloc _, Blk.new1 w _ _ _⟩
 have s2 : W.cell? ⟨w.heap.size, 2, none⟩ = some (.int .i64 r.s) := B0.cell 2
 go_enter Tryz.func118, Tryz.ntmps118
 go_wp2_with fail
 go_upto_region 2 with (fail)
 go_cut [4, 5] from 8 to 14 (fun s4 s5 wx => s4 = .iface 302 (.func (.func fid) #[] #[]) ∧ s5 = .bool true ∧ Kp W wx)
 case first =>
  go_region_held3 (fun w' => w'.cell? ⟨w.heap.size, 2, none⟩ = some (.int .i64 r.s)) (first | exact Ka.cell s2 | go_keep)
   (first | (go_at_call 172; refine (vcX _).mono ?_; rintro e wa ⟨rfl, hwa⟩; have Ka : Kp W wa := (by rw [hwa]; exact (Kp.refl W).drew.alloc _); have hlk := vii wa W.heap.size (by rw [hwa]; exact World.alloc_heap_new W.drew _) r.s j _ Hf.out; clear hwa))
  go_wp2_with fail
  go_meet
  case rel => exact ⟨rfl, rfl, Ka⟩
 case rest =>
  obtain ⟨rfl, rfl, hKc⟩ := hcut
  have k2 := kW.trans hKc
  have D := B1.keep hKc
  clear s2 hW
  have c0 := Blk.f D rfl
  go_wp2_with fail
  refine wp_region_any (by kernel_rfl) ?_
  change wpAny _ _ _ _ _ _ _ (World.drew _)
  obtain ⟨V, hV⟩ : ∃ V, wc.drew = V := ⟨_, rfl⟩
  have KV : Kp wc V := by rw [← hV]; exact (Kp.refl _).drew
  rw [hV]
  have DV := D.keep KV
  clear hV c0
  have c0 := Blk.f DV rfl
  refine wpAny_take (i := 0) (v := .bool true) rfl (by kernel_rfl) (by kernel_rfl) (by kernel_rfl) (fun _ _ _ h => h) (Or.inl ⟨by rfl, fun w => by go_simp⟩) ?_
  refine wpAny_take (i := 1) (v := .bool false) rfl (by kernel_rfl) (by kernel_rfl) (by kernel_rfl) (fun _ _ _ h => h) (Or.inl ⟨by rfl, fun w => by go_simp⟩) ?_
  refine wpAny_take (i := 2) (v := .bool false) rfl (by kernel_rfl) (by kernel_rfl) (by kernel_rfl) (fun _ _ _ h => h) (Or.inl ⟨by rfl, fun w => by go_simp⟩) ?_
  refine wpAny_take (i := 3) (v := .iface 302 (.func (.func fid) #[] #[])) rfl (by kernel_rfl) (by kernel_rfl) (by kernel_rfl) (fun _ _ _ h => h) (Or.inl ⟨by rfl, fun w => by go_simp⟩) ?_
  refine wpAny_take (i := 4) (v := .func (.func fid) #[] #[]) rfl (by kernel_rfl) (by kernel_rfl) (by kernel_rfl) (fun _ _ _ h => h) (Or.inl ⟨by rfl, fun w => by go_simp⟩) ?_
  refine vfz 5 rfl (by kernel_rfl) ?_
  simp only [List.drop_succ_cons, List.drop_zero]
  go_wp2_with fail
  refine (Hst.out _).mono ?_
  rintro e wa ⟨rfl, hKa⟩
  have ka := k2.trans (KV.trans hKa)
  have Da := DV.keep hKa
  clear c0
  have c0 := Blk.f Da rfl
  cases b with
  | false =>
   go_wp2_with fail
   go_ret
   exact ⟨rfl, ka⟩
  | true =>
   go_wp2_with fail
   refine (vfy r _ ha).mono ?_
   rintro e wb ⟨rfl, hKb⟩
   rw [HT.out]
   cases T with
   | true =>
    go_wp2_with fail
    go_ret
    exact ⟨rfl, ka.trans hKb⟩
   | false =>
    go_wp2_with fail
    go_ret
    exact ⟨rfl, ka.trans hKb⟩
set_option maxRecDepth 100000 in
theorem vfA (r : Rt) (w : World) (hf : Instr.findNow (.int .i64) (.int .i64 r.s) [stE 0, stE 1, stE 2, stE 3, stE 4] 0 = some none) :
  Calls Tryz.prog 118 #[.agg #[.int .u32 r.p.a, .int .i64 r.p.l, .int .i64 r.s, .int .i64 r.m, .int .i64 r.l, .int .i64 r.f, .int .u32 r.x, .int .i64 r.d, .bool r.c]] w fun e w' => e = .returned (.int .i64 2) ∧ Kp w w' := by
 have Hf := Lib.hid hf; clear hf
 obtain ⟨W, hW, kW, B0, B1⟩ : ∃ W, (w.alloc (.cells #[.int .u32 r.p.a, .int .i64 r.p.l, .int .i64 r.s, .int .i64 r.m, .int .i64 r.l, .int .i64 r.f, .int .u32 r.x, .int .i64 r.d, .bool r.c] 52)).alloc (.cells #[.int .u32 r.p.a, .int .i64 r.p.l, .int .i64 r.s, .int .i64 r.m, .int .i64 r.l, .int .i64 r.f, .int .u32 r.x, .int .i64 r.d, .bool r.c] 255) = W ∧ Kp w W ∧ Blk W w.heap.size 52 #[.int .u32 r.p.a, .int .i64 r.p.l, .int .i64 r.s, .int .i64 r.m, .int .i64 r.l, .int .i64 r.f, .int .u32 r.x, .int .i64 r.d, .bool r.c] ∧ Blk W (w.heap.size + 1) 255 #[.int .u32 r.p.a, .int .i64 r.p.l, .int .i64 r.s, .int .i64 r.m, .int .i64 r.l, .int .i64 r.f, .int .u32 r.x, .int .i64 r.d, .bool r.c] :=
  ⟨_, rfl, ((Kp.refl _).alloc _).alloc _, (Blk.new w _ _).alloc _, Blk.new1 w _ _ _⟩
 have s2 : W.cell? ⟨w.heap.size, 2, none⟩ = some (.int .i64 r.s) := B0.cell 2
 go_enter Tryz.func118, Tryz.ntmps118
 go_wp2_with fail
 go_upto_region 2 with (fail)
 go_cut [4, 5] from 8 to 14 (fun s4 s5 wx => s4 = .nilIface ∧ s5 = .bool false ∧ Kp W wx)
 case first =>
  go_region_held3 (fun w' => w'.cell? ⟨w.heap.size, 2, none⟩ = some (.int .i64 r.s)) (first | exact Ka.cell s2 | go_keep)
   (first | (go_at_call 172; refine (vcX _).mono ?_; rintro e wa ⟨rfl, hwa⟩; have Ka : Kp W wa := (by rw [hwa]; exact (Kp.refl W).drew.alloc _); have hlk := vgH wa W.heap.size (by rw [hwa]; exact World.alloc_heap_new W.drew _) r.s Hf.out; clear hwa))
  go_wp2_with fail
  go_meet
  case rel => exact ⟨rfl, rfl, Ka⟩
 case rest =>
  obtain ⟨rfl, rfl, hKc⟩ := hcut
  have k2 := kW.trans hKc
  go_wp2_with fail
  go_quiet (fail)
  go_wp2_with fail
  go_ret
  exact ⟨rfl, k2.drewN _⟩
theorem vij (args : Array Value) (w : World) : (callFunc 244 args).run Tryz.prog w = .ok (.enter 244 args) w := by kernel_rfl
theorem vik (args : Array Value) (w : World) : (callFunc 247 args).run Tryz.prog w = .ok (.enter 247 args) w := by kernel_rfl
theorem vil (args : Array Value) (w : World) : (callFunc 248 args).run Tryz.prog w = .ok (.enter 248 args) w := by kernel_rfl
theorem vim (args : Array Value) (w : World) : (callFunc 250 args).run Tryz.prog w = .ok (.enter 250 args) w := by kernel_rfl
theorem vin (args : Array Value) (w : World) : (callFunc 251 args).run Tryz.prog w = .ok (.enter 251 args) w := by kernel_rfl
theorem vbM (r : Rt) (w : World) (ha : r.p.a < 4294967296) (hx : r.x < 4294967296) : Calls Tryz.prog 118 #[.agg #[.int .u32 r.p.a, .int .i64 r.p.l, .int .i64 r.s, .int .i64 r.m, .int .i64 r.l, .int .i64 r.f, .int .u32 r.x, .int .i64 r.d, .bool r.c]] w fun e w' => e = .returned (.int .i64 (checkR r)) ∧ Kp w w' := by
 have hf := vkv r.s
 by_cases h0 : r.s = 0
 ·have hb : stateB r = (hasB r 0 0 && (nowB r && !r.c)) := by simp [stateB, h0]
  refine (vaV r 0 244 (hasB r 0 0 && (nowB r && !r.c)) w ha (by rw [hf]; simp [h0, stV, stFn]) vij (fun w => vkp r w)).mono ?_
  rintro e w' ⟨rfl, hK⟩
  exact ⟨by simp only [checkR, hb], hK⟩
 by_cases h1 : r.s = 1
 ·have hb : stateB r = (hasB r 1 0 && nowB r) := by simp [stateB, h1]
  refine (vaV r 1 247 (hasB r 1 0 && nowB r) w ha (by rw [hf]; simp [h1, stV, stFn]) vik (fun w => vkq r w)).mono ?_
  rintro e w' ⟨rfl, hK⟩
  exact ⟨by simp only [checkR, hb], hK⟩
 by_cases h2 : r.s = 2
 ·have hb : stateB r = (withB 2 15 r.m && (hasB r r.m 0 && someB r)) := by simp [stateB, h2]
  refine (vaV r 2 248 (withB 2 15 r.m && (hasB r r.m 0 && someB r)) w ha (by rw [hf]; simp [h2, stV, stFn]) vil (fun w => vks r w hx)).mono ?_
  rintro e w' ⟨rfl, hK⟩
  exact ⟨by simp only [checkR, hb], hK⟩
 by_cases h3 : r.s = 3
 ·have hb : stateB r = (withB 2 15 r.l && (hasB r 16 r.l && someB r)) := by simp [stateB, h3]
  refine (vaV r 3 250 (withB 2 15 r.l && (hasB r 16 r.l && someB r)) w ha (by rw [hf]; simp [h3, stV, stFn]) vim (fun w => vkt r w hx)).mono ?_
  rintro e w' ⟨rfl, hK⟩
  exact ⟨by simp only [checkR, hb], hK⟩
 by_cases h4 : r.s = 4
 ·have hb : stateB r = (hasB r 16 0 && someB r) := by simp [stateB, h4]
  refine (vaV r 4 251 (hasB r 16 0 && someB r) w ha (by rw [hf]; simp [h4, stV, stFn]) vin (fun w => vkr r w hx)).mono ?_
  rintro e w' ⟨rfl, hK⟩
  exact ⟨by simp only [checkR, hb], hK⟩
 have hb : stateB r = false := by simp [stateB, h0, h1, h2, h3, h4]
 simp only [h0, h1, h2, h3, h4, if_false] at hf
 refine (vfA r w hf).mono ?_
 rintro e w' ⟨rfl, hK⟩
 exact ⟨by simp [checkR, hb], hK⟩
end

section
def mskN (n i : Nat) : Nat := (2 ^ min i n - 1) * 2 ^ (i - min i n)
theorem vio (n : Nat) : mskN n 0 = 0 := by simp [mskN]
theorem vlx (n i : Nat) : mskN n i < 2 ^ i := by
 unfold mskN
 have h1 : 2 ^ i = 2 ^ min i n * 2 ^ (i - min i n) := by rw [← Nat.pow_add]; congr 1; omega
 have h2 : 0 < 2 ^ min i n := Nat.pow_pos (by decide)
 have h3 : 0 < 2 ^ (i - min i n) := Nat.pow_pos (by decide)
 rw [h1]
 exact Nat.mul_lt_mul_of_pos_right (by omega) h3
theorem vip {n i : Nat} (h : i < n) : mskN n (i + 1) = 2 * mskN n i + 1 := by
 unfold mskN
 have e1 : min (i + 1) n = i + 1 := by omega
 have e2 : min i n = i := by omega
 rw [e1, e2]
 have h2 : 0 < 2 ^ i := Nat.pow_pos (by decide)
 simp only [Nat.sub_self, Nat.pow_zero, Nat.mul_one, Nat.pow_succ]
 omega
theorem viq {n i : Nat} (h : ¬ i < n) : mskN n (i + 1) = 2 * mskN n i := by
 unfold mskN
 have e1 : min (i + 1) n = n := by omega
 have e2 : min i n = n := by omega
 rw [e1, e2, show i + 1 - n = (i - n) + 1 by omega, Nat.pow_succ]
 generalize 2 ^ (i - n) = x
 generalize 2 ^ n - 1 = y
 rw [Nat.mul_comm x 2, Nat.mul_left_comm]
theorem vkw {n : Nat} (h : n ≤ 32) : mskN n 32 = maskN n := by
 unfold mskN maskN
 have e1 : min 32 n = n := by omega
 rw [e1, Nat.sub_mul, ← Nat.pow_add, show n + (32 - n) = 32 by omega]
 simp
end

end Go.Proofs.YtgopnfacklmkaaaGreatDoor
