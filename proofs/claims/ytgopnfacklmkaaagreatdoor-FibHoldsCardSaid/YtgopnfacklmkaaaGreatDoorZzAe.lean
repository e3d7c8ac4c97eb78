/- Lemmas and contracts for the theorem of this claim: VRtA, OfG, VRtB, VGen2. -/
import Derived.Test.YtgopnfacklmkaaaGreatDoorZzAd
set_option linter.all false
set_option maxHeartbeats 16000000
namespace Go.Proofs.YtgopnfacklmkaaaGreatDoor
section
open Go.RowKit
structure Rt where
 p : PI
 s : Int
 m : Int
 l : Int
 f : Int
 x : Nat
 d : Int
 c : Bool
def Rt.enc (r : Rt) : List Value := [.int .u32 r.p.a, .int .i64 r.p.l, .int .i64 r.s, .int .i64 r.m, .int .i64 r.l, .int .i64 r.f, .int .u32 r.x, .int .i64 r.d, .bool r.c]
theorem Rt.len (r : Rt) : r.enc.length = 9 := rfl
def toldB (p : PI) : Bool := p.okB && !badKind p.a p.l.toNat
def hasB (r : Rt) (m l : Int) : Bool := (r.m == m) && (r.l == l)
def nowB (r : Rt) : Bool := (r.f == 0) && (((r.x : Int) == 0) && (r.d == 0))
def withB (lo hi n : Int) : Bool := !(decide (n < lo)) && !(decide (hi < n))
def mayB (f : Int) (x : Nat) : Bool := withB 0 15 f && ((kindAd x : Int) == 6)
def someB (r : Rt) : Bool := mayB r.f r.x && withB 0 4611686018427387904 r.d
def stateB (r : Rt) : Bool :=
 if r.s = 0 then hasB r 0 0 && (nowB r && !r.c)
 else if r.s = 1 then hasB r 1 0 && nowB r
 else if r.s = 2 then withB 2 15 r.m && (hasB r r.m 0 && someB r)
 else if r.s = 3 then withB 2 15 r.l && (hasB r 16 r.l && someB r)
 else if r.s = 4 then hasB r 16 0 && someB r
 else false
def checkR (r : Rt) : Int := if stateB r && toldB r.p then 0 else 2
set_option maxRecDepth 100000 in
theorem vbP (lo hi n : Int) (g : Nat) (w : World) (hB : Blk w g 3 #[.int .i64 n]) : Calls Tryz.prog 178 #[.int .i64 lo, .int .i64 hi, .slice (some ⟨g, 0, none⟩) 1 1] w fun e w' => e = .returned (.bool (withB lo hi n)) ∧ w = w' := by
 have c0 : w.cell? ⟨g, 0, none⟩ = some (.int .i64 n) := hB.cell 0
 clear hB
 go_enter Tryz.func178, Tryz.ntmps178
 go_wp2_with fail
 go_loop [11] (fun i => ∃ k : Nat, k ≤ 1 ∧ i = .int .i64 k ∧ Hid (k = 1 → withB lo hi n = true)) (fun i => 1 - (intOf i).toNat)
 case atStart => exact ⟨0, by omega, rfl, fun h => absurd h (by omega)⟩
 case round =>
  obtain ⟨k, hk, rfl, hall⟩ := hrel
  have hk2 : k = 0 ∨ k = 1 := by omega
  rcases hk2 with rfl | rfl
  ·cases h1 : decide (n < lo) with
   | true =>
    have H := Lib.hid (show withB lo hi n = false by simp only [withB, h1]; rfl)
    go_wp2_with fail
    go_ret
    exact ⟨by rw [H.out]; rfl, rfl⟩
   | false =>
    cases h2 : decide (hi < n) with
    | true =>
     have H := Lib.hid (show withB lo hi n = false by simp only [withB, h1, h2]; rfl)
     go_wp2_with fail
     go_ret
     exact ⟨by rw [H.out]; rfl, rfl⟩
    | false =>
     have H := Lib.hid (show withB lo hi n = true by simp only [withB, h1, h2]; rfl)
     go_wp2_with fail
     go_round
     case rel => exact ⟨1, by omega, by go_num, fun _ => H.out⟩
     case measure => simp [intOf] <;> omega
  ·have H := Lib.hid (hall.out rfl)
   clear hall
   go_wp2_with fail
   go_ret
   exact ⟨by rw [H.out]; rfl, rfl⟩
set_option maxRecDepth 100000 in
theorem vcY (lo hi n : Int) (g : Nat) (w : World) (hB : Blk w g 2 #[.int .i64 n]) : Calls Tryz.prog 179 #[.int .i64 lo, .int .i64 hi, .slice (some ⟨g, 0, none⟩) 1 1] w fun e w' => e = .returned (.bool (withB lo hi n)) ∧ w = w' := by
 have c0 : w.cell? ⟨g, 0, none⟩ = some (.int .i64 n) := hB.cell 0
 clear hB
 go_enter Tryz.func179, Tryz.ntmps179
 go_wp2_with fail
 go_loop [11] (fun i => ∃ k : Nat, k ≤ 1 ∧ i = .int .i64 k ∧ Hid (k = 1 → withB lo hi n = true)) (fun i => 1 - (intOf i).toNat)
 case atStart => exact ⟨0, by omega, rfl, fun h => absurd h (by omega)⟩
 case round =>
  obtain ⟨k, hk, rfl, hall⟩ := hrel
  have hk2 : k = 0 ∨ k = 1 := by omega
  rcases hk2 with rfl | rfl
  ·cases h1 : decide (n < lo) with
   | true =>
    have H := Lib.hid (show withB lo hi n = false by simp only [withB, h1]; rfl)
    go_wp2_with fail
    go_ret
    exact ⟨by rw [H.out]; rfl, rfl⟩
   | false =>
    cases h2 : decide (hi < n) with
    | true =>
     have H := Lib.hid (show withB lo hi n = false by simp only [withB, h1, h2]; rfl)
     go_wp2_with fail
     go_ret
     exact ⟨by rw [H.out]; rfl, rfl⟩
    | false =>
     have H := Lib.hid (show withB lo hi n = true by simp only [withB, h1, h2]; rfl)
     go_wp2_with fail
     go_round
     case rel => exact ⟨1, by omega, by go_num, fun _ => H.out⟩
     case measure => simp [intOf] <;> omega
  ·have H := Lib.hid (hall.out rfl)
   clear hall
   go_wp2_with fail
   go_ret
   exact ⟨by rw [H.out]; rfl, rfl⟩
set_option maxRecDepth 100000 in
theorem vcr (r : Rt) (m l : Int) (w : World) : Calls Tryz.prog 245 #[.agg #[.int .u32 r.p.a, .int .i64 r.p.l, .int .i64 r.s, .int .i64 r.m, .int .i64 r.l, .int .i64 r.f, .int .u32 r.x, .int .i64 r.d, .bool r.c], .int .i64 m, .int .i64 l] w fun e w' => e = .returned (.bool (hasB r m l)) ∧ Kp w w' := by
 obtain ⟨W, hW, kW, B0⟩ := Blk.al1 (w := w) rfl #[.int .u32 r.p.a, .int .i64 r.p.l, .int .i64 r.s, .int .i64 r.m, .int .i64 r.l, .int .i64 r.f, .int .u32 r.x, .int .i64 r.d, .bool r.c] 255
 have c0 := Blk.f B0 rfl
 cases h1 : (r.m == m) with
 | true =>
  have H := Lib.hid (show hasB r m l = (r.l == l) by simp only [hasB, h1, Bool.true_and])
  go_enter Tryz.func245, Tryz.ntmps245
  go_wp2_with fail
  go_ret
  exact ⟨by rw [H.out]; rfl, kW⟩
 | false =>
  have H := Lib.hid (show hasB r m l = false by simp only [hasB, h1, Bool.false_and])
  go_enter Tryz.func245, Tryz.ntmps245
  go_wp2_with fail
  go_ret
  exact ⟨by rw [H.out]; rfl, kW⟩
set_option maxRecDepth 100000 in
theorem vdu (r : Rt) (w : World) : Calls Tryz.prog 246 #[.agg #[.int .u32 r.p.a, .int .i64 r.p.l, .int .i64 r.s, .int .i64 r.m, .int .i64 r.l, .int .i64 r.f, .int .u32 r.x, .int .i64 r.d, .bool r.c]] w fun e w' => e = .returned (.bool (nowB r)) ∧ Kp w w' := by
 obtain ⟨W, hW, kW, B0⟩ := Blk.al1 (w := w) rfl #[.int .u32 r.p.a, .int .i64 r.p.l, .int .i64 r.s, .int .i64 r.m, .int .i64 r.l, .int .i64 r.f, .int .u32 r.x, .int .i64 r.d, .bool r.c] 255
 have c0 := Blk.f B0 rfl
 cases h1 : (r.f == 0) with
 | true =>
  cases h2 : ((r.x : Int) == 0) with
  | true =>
   have H := Lib.hid (show nowB r = (r.d == 0) by simp only [nowB, h1, h2, Bool.true_and])
   go_enter Tryz.func246, Tryz.ntmps246
   go_wp2_with fail
   go_ret
   exact ⟨by rw [H.out]; rfl, kW⟩
  | false =>
   have H := Lib.hid (show nowB r = false by simp only [nowB, h1, h2, Bool.true_and, Bool.false_and])
   go_enter Tryz.func246, Tryz.ntmps246
   go_wp2_with fail
   go_ret
   exact ⟨by rw [H.out]; rfl, kW⟩
 | false =>
  have H := Lib.hid (show nowB r = false by simp only [nowB, h1, Bool.false_and])
  go_enter Tryz.func246, Tryz.ntmps246
  go_wp2_with fail
  go_ret
  exact ⟨by rw [H.out]; rfl, kW⟩
set_option maxRecDepth 100000 in
theorem vdv (f : Int) (x : Nat) (w : World) (hx : x < 4294967296) : Calls Tryz.prog 177 #[.int .i64 f, .int .u32 x] w fun e w' => e = .returned (.bool (mayB f x)) ∧ Kp w w' := by
 go_enter Tryz.func177, Tryz.ntmps177
 go_wp2_with fail
 refine (vbP 0 15 f w.heap.size _ (Blk.new w _ _)).mono ?_
 rintro e w1 ⟨rfl, rfl⟩
 cases h1 : withB 0 15 f with
 | true =>
  have H := Lib.hid (show mayB f x = ((kindAd x : Int) == 6) by simp only [mayB, h1, Bool.true_and])
  go_wp2_with fail
  refine (vep x _ hx).mono ?_
  rintro e w2 ⟨rfl, hK2⟩
  go_wp2_with fail
  go_ret
  exact ⟨by rw [H.out]; rfl, ((Kp.refl _).alloc _).trans hK2⟩
 | false =>
  have H := Lib.hid (show mayB f x = false by simp only [mayB, h1, Bool.false_and])
  go_wp2_with fail
  go_ret
  exact ⟨by rw [H.out]; rfl, (Kp.refl _).alloc _⟩
set_option maxRecDepth 100000 in
theorem veJ (r : Rt) (w : World) (hx : r.x < 4294967296) : Calls Tryz.prog 249 #[.agg #[.int .u32 r.p.a, .int .i64 r.p.l, .int .i64 r.s, .int .i64 r.m, .int .i64 r.l, .int .i64 r.f, .int .u32 r.x, .int .i64 r.d, .bool r.c]] w fun e w' => e = .returned (.bool (someB r)) ∧ Kp w w' := by
 obtain ⟨W, hW, kW, B0⟩ := Blk.al1 (w := w) rfl #[.int .u32 r.p.a, .int .i64 r.p.l, .int .i64 r.s, .int .i64 r.m, .int .i64 r.l, .int .i64 r.f, .int .u32 r.x, .int .i64 r.d, .bool r.c] 255
 have c0 := Blk.f B0 rfl
 go_enter Tryz.func249, Tryz.ntmps249
 go_wp2_with fail
 refine (vdv r.f r.x _ hx).mono ?_
 rintro e w1 ⟨rfl, hK1⟩
 have k1 := kW.trans hK1
 have B1 := B0.keep hK1
 have d7 := Blk.f B1 rfl
 clear hW c0
 cases h1 : mayB r.f r.x with
 | true =>
  have H := Lib.hid (show someB r = withB 0 4611686018427387904 r.d by simp only [someB, h1, Bool.true_and])
  go_wp2_with fail
  refine (vcY 0 4611686018427387904 r.d w1.heap.size _ (Blk.new w1 _ _)).mono ?_
  rintro e w2 ⟨rfl, rfl⟩
  go_wp2_with fail
  go_ret
  exact ⟨by rw [H.out]; rfl, k1.alloc _⟩
 | false =>
  have H := Lib.hid (show someB r = false by simp only [someB, h1, Bool.false_and])
  go_wp2_with fail
  go_ret
  exact ⟨by rw [H.out]; rfl, k1⟩
set_option maxRecDepth 100000 in
theorem vnB (r : Rt) (w : World) : Calls Tryz.prog 244 #[.agg #[.int .u32 r.p.a, .int .i64 r.p.l, .int .i64 r.s, .int .i64 r.m, .int .i64 r.l, .int .i64 r.f, .int .u32 r.x, .int .i64 r.d, .bool r.c]] w fun e w' => e = .returned (.bool (hasB r 0 0 && (nowB r && !r.c))) ∧ Kp w w' := by
 obtain ⟨W, hW, kW, B0⟩ := Blk.al1 (w := w) rfl #[.int .u32 r.p.a, .int .i64 r.p.l, .int .i64 r.s, .int .i64 r.m, .int .i64 r.l, .int .i64 r.f, .int .u32 r.x, .int .i64 r.d, .bool r.c] 255
 have c0 := Blk.f B0 rfl
 go_enter Tryz.func244, Tryz.ntmps244
 go_wp2_with fail
 refine (vcr r 0 0 _).mono ?_
 rintro e w1 ⟨rfl, hK1⟩
 have k1 := kW.trans hK1
 have B1 := B0.keep hK1
 clear hW c0
 have c0 := Blk.f B1 rfl
 cases h1 : hasB r 0 0 with
 | true =>
  go_wp2_with fail
  refine (vdu r _).mono ?_
  rintro e w2 ⟨rfl, hK2⟩
  have k2 := k1.trans hK2
  have B2 := B1.keep hK2
  have f8 := Blk.f B2 rfl
  clear c0
  cases h2 : nowB r with
  | true =>
   have H := Lib.hid (show (hasB r 0 0 && (nowB r && !r.c)) = !r.c by simp only [h1, h2, Bool.true_and])
   go_wp2_with fail
   go_ret
   exact ⟨by rw [H.out]; rfl, k2⟩
  | false =>
   have H := Lib.hid (show (hasB r 0 0 && (nowB r && !r.c)) = false by simp only [h1, h2, Bool.true_and, Bool.false_and])
   go_wp2_with fail
   go_ret
   exact ⟨by rw [H.out]; rfl, k2⟩
 | false =>
  have H := Lib.hid (show (hasB r 0 0 && (nowB r && !r.c)) = false by simp only [h1, Bool.false_and])
  go_wp2_with fail
  go_ret
  exact ⟨by rw [H.out]; rfl, k1⟩
set_option maxRecDepth 100000 in
theorem vnC (r : Rt) (w : World) : Calls Tryz.prog 247 #[.agg #[.int .u32 r.p.a, .int .i64 r.p.l, .int .i64 r.s, .int .i64 r.m, .int .i64 r.l, .int .i64 r.f, .int .u32 r.x, .int .i64 r.d, .bool r.c]] w fun e w' => e = .returned (.bool (hasB r 1 0 && nowB r)) ∧ Kp w w' := by
 obtain ⟨W, hW, kW, B0⟩ := Blk.al1 (w := w) rfl #[.int .u32 r.p.a, .int .i64 r.p.l, .int .i64 r.s, .int .i64 r.m, .int .i64 r.l, .int .i64 r.f, .int .u32 r.x, .int .i64 r.d, .bool r.c] 255
 have c0 := Blk.f B0 rfl
 go_enter Tryz.func247, Tryz.ntmps247
 go_wp2_with fail
 refine (vcr r 1 0 _).mono ?_
 rintro e w1 ⟨rfl, hK1⟩
 have k1 := kW.trans hK1
 have B1 := B0.keep hK1
 clear hW c0
 have c0 := Blk.f B1 rfl
 cases h1 : hasB r 1 0 with
 | true =>
  go_wp2_with fail
  refine (vdu r _).mono ?_
  rintro e w2 ⟨rfl, hK2⟩
  have k2 := k1.trans hK2
  have H := Lib.hid (show (hasB r 1 0 && nowB r) = nowB r by simp only [h1, Bool.true_and])
  clear c0
  go_wp2_with fail
  go_ret
  exact ⟨by rw [H.out]; rfl, k2⟩
 | false =>
  have H := Lib.hid (show (hasB r 1 0 && nowB r) = false by simp only [h1, Bool.false_and])
  go_wp2_with fail
  go_ret
  exact ⟨by rw [H.out]; rfl, k1⟩
set_option maxRecDepth 100000 in
theorem vnD (r : Rt) (w : World) (hx : r.x < 4294967296) : Calls Tryz.prog 251 #[.agg #[.int .u32 r.p.a, .int .i64 r.p.l, .int .i64 r.s, .int .i64 r.m, .int .i64 r.l, .int .i64 r.f, .int .u32 r.x, .int .i64 r.d, .bool r.c]] w fun e w' => e = .returned (.bool (hasB r 16 0 && someB r)) ∧ Kp w w' := by
 obtain ⟨W, hW, kW, B0⟩ := Blk.al1 (w := w) rfl #[.int .u32 r.p.a, .int .i64 r.p.l, .int .i64 r.s, .int .i64 r.m, .int .i64 r.l, .int .i64 r.f, .int .u32 r.x, .int .i64 r.d, .bool r.c] 255
 have c0 := Blk.f B0 rfl
 go_enter Tryz.func251, Tryz.ntmps251
 go_wp2_with fail
 refine (vcr r 16 0 _).mono ?_
 rintro e w1 ⟨rfl, hK1⟩
 have k1 := kW.trans hK1
 have B1 := B0.keep hK1
 clear hW c0
 have c0 := Blk.f B1 rfl
 cases h1 : hasB r 16 0 with
 | true =>
  go_wp2_with fail
  refine (veJ r _ hx).mono ?_
  rintro e w2 ⟨rfl, hK2⟩
  have k2 := k1.trans hK2
  have H := Lib.hid (show (hasB r 16 0 && someB r) = someB r by simp only [h1, Bool.true_and])
  clear c0
  go_wp2_with fail
  go_ret
  exact ⟨by rw [H.out]; rfl, k2⟩
 | false =>
  have H := Lib.hid (show (hasB r 16 0 && someB r) = false by simp only [h1, Bool.false_and])
  go_wp2_with fail
  go_ret
  exact ⟨by rw [H.out]; rfl, k1⟩
set_option maxRecDepth 100000 in
theorem vnE (r : Rt) (w : World) (hx : r.x < 4294967296) : Calls Tryz.prog 248 #[.agg #[.int .u32 r.p.a, .int .i64 r.p.l, .int .i64 r.s, .int .i64 r.m, .int .i64 r.l, .int .i64 r.f, .int .u32 r.x, .int .i64 r.d, .bool r.c]] w fun e w' => e = .returned (.bool (withB 2 15 r.m && (hasB r r.m 0 && someB r))) ∧ Kp w w' := by
 obtain ⟨W, hW, kW, B0⟩ := Blk.al1 (w := w) rfl #[.int .u32 r.p.a, .int .i64 r.p.l, .int .i64 r.s, .int .i64 r.m, .int .i64 r.l, .int .i64 r.f, .int .u32 r.x, .int .i64 r.d, .bool r.c] 255
 have c0 := Blk.f B0 rfl
 go_enter Tryz.func248, Tryz.ntmps248
 go_wp2_with fail
 refine (vbP 2 15 r.m W.heap.size _ (Blk.new W _ _)).mono ?_
 rintro e w1 ⟨rfl, rfl⟩
 have k1 := kW.alloc (.cells #[.int .i64 r.m] 3)
 have B1 := B0.alloc (.cells #[.int .i64 r.m] 3)
 obtain ⟨V, hV⟩ : ∃ V, W.alloc (.cells #[.int .i64 r.m] 3) = V := ⟨_, rfl⟩
 rw [hV] at k1 B1 ⊢
 clear hW c0
 clear hV
 have c0 := Blk.f B1 rfl
 cases h0 : withB 2 15 r.m with
 | true =>
  go_wp2_with fail
  refine (vcr r r.m 0 _).mono ?_
  rintro e w2 ⟨rfl, hK2⟩
  have k2 := k1.trans hK2
  have B2 := B1.keep hK2
  clear c0
  have c0 := Blk.f B2 rfl
  cases h1 : hasB r r.m 0 with
  | true =>
   go_wp2_with fail
   refine (veJ r _ hx).mono ?_
   rintro e w3 ⟨rfl, hK3⟩
   have k3 := k2.trans hK3
   have H := Lib.hid (show (withB 2 15 r.m && (hasB r r.m 0 && someB r)) = someB r by simp only [h0, h1, Bool.true_and])
   clear c0
   go_wp2_with fail
   go_ret
   exact ⟨by rw [H.out]; rfl, k3⟩
  | false =>
   have H := Lib.hid (show (withB 2 15 r.m && (hasB r r.m 0 && someB r)) = false by simp only [h0, h1, Bool.true_and, Bool.false_and])
   go_wp2_with fail
   go_ret
   exact ⟨by rw [H.out]; rfl, k2⟩
 | false =>
  have H := Lib.hid (show (withB 2 15 r.m && (hasB r r.m 0 && someB r)) = false by simp only [h0, Bool.false_and])
  go_wp2_with fail
  go_ret
  exact ⟨by rw [H.out]; rfl, k1⟩
set_option maxRecDepth 100000 in
theorem vnF (r : Rt) (w : World) (hx : r.x < 4294967296) : Calls Tryz.prog 250 #[.agg #[.int .u32 r.p.a, .int .i64 r.p.l, .int .i64 r.s, .int .i64 r.m, .int .i64 r.l, .int .i64 r.f, .int .u32 r.x, .int .i64 r.d, .bool r.c]] w fun e w' => e = .returned (.bool (withB 2 15 r.l && (hasB r 16 r.l && someB r))) ∧ Kp w w' := by
 obtain ⟨W, hW, kW, B0⟩ := Blk.al1 (w := w) rfl #[.int .u32 r.p.a, .int .i64 r.p.l, .int .i64 r.s, .int .i64 r.m, .int .i64 r.l, .int .i64 r.f, .int .u32 r.x, .int .i64 r.d, .bool r.c] 255
 have c0 := Blk.f B0 rfl
 go_enter Tryz.func250, Tryz.ntmps250
 go_wp2_with fail
 refine (vbP 2 15 r.l W.heap.size _ (Blk.new W _ _)).mono ?_
 rintro e w1 ⟨rfl, rfl⟩
 have k1 := kW.alloc (.cells #[.int .i64 r.l] 3)
 have B1 := B0.alloc (.cells #[.int .i64 r.l] 3)
 obtain ⟨V, hV⟩ : ∃ V, W.alloc (.cells #[.int .i64 r.l] 3) = V := ⟨_, rfl⟩
 rw [hV] at k1 B1 ⊢
 clear hW c0
 clear hV
 have c0 := Blk.f B1 rfl
 cases h0 : withB 2 15 r.l with
 | true =>
  go_wp2_with fail
  refine (vcr r 16 r.l _).mono ?_
  rintro e w2 ⟨rfl, hK2⟩
  have k2 := k1.trans hK2
  have B2 := B1.keep hK2
  clear c0
  have c0 := Blk.f B2 rfl
  cases h1 : hasB r 16 r.l with
  | true =>
   go_wp2_with fail
   refine (veJ r _ hx).mono ?_
   rintro e w3 ⟨rfl, hK3⟩
   have k3 := k2.trans hK3
   have H := Lib.hid (show (withB 2 15 r.l && (hasB r 16 r.l && someB r)) = someB r by simp only [h0, h1, Bool.true_and])
   clear c0
   go_wp2_with fail
   go_ret
   exact ⟨by rw [H.out]; rfl, k3⟩
  | false =>
   have H := Lib.hid (show (withB 2 15 r.l && (hasB r 16 r.l && someB r)) = false by simp only [h0, h1, Bool.true_and, Bool.false_and])
   go_wp2_with fail
   go_ret
   exact ⟨by rw [H.out]; rfl, k2⟩
 | false =>
  have H := Lib.hid (show (withB 2 15 r.l && (hasB r 16 r.l && someB r)) = false by simp only [h0, Bool.false_and])
  go_wp2_with fail
  go_ret
  exact ⟨by rw [H.out]; rfl, k1⟩
def enSet (w : World) (g : Nat) (e : En) : World := (((((w.setCell ⟨g, 0, none⟩ (.int .i64 e.f)).setCell ⟨g, 1, none⟩ (.int .i64 e.t)).setCell ⟨g, 2, none⟩ (.int .u32 (e.a : Int))).setCell ⟨g, 3, none⟩ (.int .u32 (e.m : Int))).setCell ⟨g, 4, none⟩ (.int .u32 (e.n : Int))).setCell ⟨g, 5, none⟩ (.int .u32 (e.k : Int))
theorem Blk.putEn {W w : World} {g : Nat} {T : TypeId} {v0 v1 v2 v3 v4 v5 : Value} (h : Blk W g T #[v0, v1, v2, v3, v4, v5]) (e : En) (k : Kp w W) (hg : w.heap.size ≤ g) : ∃ R, enSet W g e = R ∧ Blk R g T (enC e) ∧ Kp w R :=
 ⟨_, rfl, (((((h.set_ 0 (.int .i64 e.f)).set_ 1 (.int .i64 e.t)).set_ 2 (.int .u32 (e.a : Int))).set_ 3 (.int .u32 (e.m : Int))).set_ 4 (.int .u32 (e.n : Int))).set_ 5 (.int .u32 (e.k : Int)), (((((k.setCell (p := ⟨g, 0, none⟩) hg _).setCell (p := ⟨g, 1, none⟩) hg _).setCell (p := ⟨g, 2, none⟩) hg _).setCell (p := ⟨g, 3, none⟩) hg _).setCell (p := ⟨g, 4, none⟩) hg _).setCell (p := ⟨g, 5, none⟩) hg _⟩
def zeroE : En := ⟨0, 0, 0, 0, 0, 0⟩
def zeroEC : Array Value := #[.int .i64 0, .int .i64 0, .int .u32 0, .int .u32 0, .int .u32 0, .int .u32 0]
def goodP (p : PI) : Bool := p.okB && !badK p.a (maskN p.l.toNat)
def oneE (p : PI) (m : Int) : En := ⟨2, 0, p.a, maskN p.l.toNat, 0, m.toNat⟩
def ofN (p : PI) (m : Int) : Int := if goodP p && (decide (1 ≤ m) && decide (m ≤ 16)) then 0 else 2
def ofE (p : PI) (m : Int) : En := if ofN p m = 0 then oneE p m else zeroE
def OfG (p : PI) (m : Int) (w : World) (e : Ending) (w' : World) : Prop := e = .returned (.tuple #[enV (ofE p m), .int .i64 (ofN p m)]) ∧ Kp w w'
theorem vlt {p : PI} {m : Int} (ha : p.a < 4294967296) (hok : p.okB = true) (h1 : 1 ≤ m) (h2 : m ≤ 16) : whyE (oneE p m) = if badK p.a (maskN p.l.toNat) then 4 else 0 := by
 obtain ⟨hpk, hpl⟩ := pn_ok hok ha
 have hn : p.l.toNat ≤ 32 := hpk.2.1
 have hc : cut p.a p.l.toNat = p.a := hpk.2.2
 have r0 : rulB (oneE p m) 0 = false := rfl
 have r1 : rulB (oneE p m) 1 = false := by
  show (!isM (maskN p.l.toNat)) = false
  rw [vlp hn]
  rfl
 have r2 : rulB (oneE p m) 2 = false := by
  show (bits .andNot .u32 (p.a : Int) (maskN p.l.toNat : Int) != 0) = false
  rw [vcX ha hn, hc]
  simp
 have r3 : rulB (oneE p m) 3 = badK p.a (maskN p.l.toNat) := rfl
 have r4 : rulB (oneE p m) 4 = false := rfl
 have r5 : rulB (oneE p m) 5 = false := by
  show (decide (((m.toNat : Nat) : Int) < 1) || decide ((16 : Int) < ((m.toNat : Nat) : Int))) = false
  rw [decide_eq_false (by omega), decide_eq_false (by omega)]
  rfl
 unfold whyE
 rw [r0, r1, r2, r3, r4, r5]
 simp
theorem vgS {p : PI} {m : Int} (h : ofN p m = 2) : ofE p m = zeroE := by unfold ofE; rw [h]; rfl
theorem vnG {p : PI} {m : Int} (h : ofN p m = 0) : ofE p m = oneE p m := by unfold ofE; rw [if_pos h]
set_option maxRecDepth 100000 in
theorem of_g (p : PI) (m : Int) (w : World) (ha : p.a < 4294967296) : Calls Tryz.prog 163 #[.agg #[.int .u32 (p.a : Int), .int .i64 p.l], .int .i64 m] w (OfG p m w) := by
 obtain ⟨b, hb⟩ : ∃ b, w.heap.size = b := ⟨_, rfl⟩
 obtain ⟨W, hW, kW, B0, B1⟩ := Blk.al2 hb #[.int .u32 (p.a : Int), .int .i64 p.l] 39 zeroEC 66
 unfold zeroEC at hW
 have p0 := Blk.f B0 rfl
 by_cases hr : p.okB = true ∧ 1 ≤ m ∧ m ≤ 16
 ·obtain ⟨hok, h1, h2⟩ := hr
  obtain ⟨k, rfl⟩ := Int.eq_ofNat_of_zero_le (show 0 ≤ m by omega)
  have Hwhy := Lib.hid (vlt ha hok h1 h2)
  have d1 : decide ((k : Int) < 1) = false := decide_eq_false (by omega)
  have d2 : decide ((16 : Int) < (k : Int)) = false := decide_eq_false (by omega)
  obtain ⟨hpk, hpl⟩ := pn_ok hok ha
  obtain ⟨n, hn⟩ : ∃ n, p.l.toNat = n := ⟨_, rfl⟩
  have Hpl : Hid (p.l = (n : Int)) := Lib.hid (by rw [← hn]; exact hpl)
  have hn32 : n ≤ 32 := by rw [← hn]; exact hpk.2.1
  have Hck := Lib.hid (show checkP p = 0 by simp [checkP, hok])
  have hm : IntKind.u32.wrap (k : Int) = (k : Int) := by show (k : Int) % 4294967296 = _; omega
  have Hone : Hid (oneE p k = ⟨2, 0, p.a, maskN n, 0, k⟩) := Lib.hid (by unfold oneE; rw [hn, Int.toNat_natCast])
  have Hof : Hid (∀ x, badK p.a (maskN p.l.toNat) = x → ofN p k = if x then 2 else 0) := Lib.hid (fun x hx => by
   unfold ofN goodP
   rw [hok, hx, decide_eq_true h1, decide_eq_true h2]
   cases x <;> rfl)
  have Hwf : Hid ((oneE p k).wf) := Lib.hid ⟨ha, vco _, (by decide : 0 < 4294967296), by show (k : Int).toNat < 4294967296; omega⟩
  have HWY : Hid (∀ w, Calls Tryz.prog 160 #[.agg #[.int .i64 2, .int .i64 0, .int .u32 (p.a : Int), .int .u32 (maskN n : Int), .int .u32 0, .int .u32 (k : Int)]] w fun r w' => r = .returned (.int .i64 (if badK p.a (maskN p.l.toNat) then 4 else 0)) ∧ Kp w w') := Lib.hid (fun w => by
   have := vls (oneE p k) w Hwf.out
   rw [Hwhy.out, Hone.out] at this
   unfold enV at this
   simp only [Int.natCast_zero] at this
   exact this)
  clear hok h1 h2 hpk hpl
  go_enter Tryz.func163, Tryz.ntmps163
  go_wp2_with fail
  refine (vax p _ ha).mono ?_
  rintro e w1 ⟨rfl, hK1⟩
  rw [Hck.out]
  have k1 := kW.trans hK1
  have C0 := B0.keep hK1
  have C1 := B1.keep hK1
  clear hW p0
  have p0 : w1.cell? ⟨b, 0, none⟩ = some (.int .u32 (p.a : Int)) := C0.cell 0
  have p1 : w1.cell? ⟨b, 1, none⟩ = some (.int .i64 (n : Int)) := by rw [← Hpl.out]; exact C0.cell 1
  clear hn
  go_wp2_with fail
  refine (vgk n _ hn32).mono ?_
  rintro e w' ⟨rfl, rfl⟩
  obtain ⟨V, hV, kV, D0⟩ := Blk.al1 (w := w1) rfl (enC (oneE p k)) 66
  rw [Hone.out] at hV D0
  unfold enC at hV
  simp only [Int.natCast_zero] at hV
  have d0 := Blk.f (l := [.int .i64 2, .int .i64 0, .int .u32 (p.a : Int), .int .u32 (maskN n : Int), .int .u32 0, .int .u32 (k : Int)]) D0 rfl
  go_wp2_with fail
  refine (HWY.out _).mono ?_
  rintro e w2 ⟨rfl, hK2⟩
  have k2 := k1.trans (kV.trans hK2)
  have E1 := C1.keep (kV.trans hK2)
  have E0 := D0.keep hK2
  clear hV d0 p0 p1
  have z := Blk.frozen E1
  have z0 := Blk.f E1 rfl
  have d0 := Blk.f (l := [.int .i64 2, .int .i64 0, .int .u32 (p.a : Int), .int .u32 (maskN n : Int), .int .u32 0, .int .u32 (k : Int)]) E0 rfl
  cases hbk : badK p.a (maskN p.l.toNat) with
  | true =>
   have HN : Hid (ofN p k = 2) := Lib.hid (Hof.out _ hbk)
   clear hbk
   simp only [if_true]
   obtain ⟨R, hR, BR, kR⟩ := Blk.putEn E1 zeroE k2 (by omega)
   simp only [enSet, zeroE, Int.natCast_zero] at hR
   go_wp2_with fail
   have r := Blk.f BR rfl
   exact bodyPost_ret (v := .tuple #[enV zeroE, .int .i64 2]) (by simp [results, Tryz.results163, go_sem, r, zeroE]) rfl ⟨by rw [vgS HN.out, HN.out], kR⟩
  | false =>
   have HN : Hid (ofN p k = 0) := Lib.hid (Hof.out _ hbk)
   clear hbk
   simp only [Bool.false_eq_true, if_false]
   obtain ⟨R, hR, BR, kR⟩ := Blk.putEn E1 (oneE p k) k2 (by omega)
   rw [Hone.out] at hR BR
   simp only [enSet, Int.natCast_zero] at hR
   go_wp2_with fail
   have r := Blk.f BR rfl
   have H1 := Hone.out
   exact bodyPost_ret (v := .tuple #[enV (oneE p k), .int .i64 0]) (by simp [results, Tryz.results163, go_sem, r, H1]) rfl ⟨by rw [vnG HN.out, HN.out], kR⟩
 ·have HN : Hid (ofN p m = 2) := Lib.hid (by
   unfold ofN goodP
   cases hok : p.okB with
   | false => rfl
   | true =>
    cases h1 : decide (1 ≤ m) with
    | false => simp
    | true =>
     cases h2 : decide (m ≤ 16) with
     | false => simp
     | true => exact absurd ⟨hok, of_decide_eq_true h1, of_decide_eq_true h2⟩ hr)
  have z := Blk.frozen B1
  cases hok : p.okB with
  | false =>
   have Hck := Lib.hid (show checkP p = 2 by simp [checkP, hok])
   clear hok hr
   go_enter Tryz.func163, Tryz.ntmps163
   go_wp2_with fail
   refine (vax p _ ha).mono ?_
   rintro e w1 ⟨rfl, hK1⟩
   rw [Hck.out]
   have C1 := B1.keep hK1
   clear hW p0 z
   have z := Blk.frozen C1
   have z0 := Blk.f C1 rfl
   obtain ⟨R, hR, BR, kR⟩ := Blk.putEn C1 zeroE (kW.trans hK1) (by omega)
   simp only [enSet, zeroE, Int.natCast_zero] at hR
   go_wp2_with fail
   have r := Blk.f BR rfl
   exact bodyPost_ret (v := .tuple #[enV zeroE, .int .i64 2]) (by simp [results, Tryz.results163, go_sem, r, zeroE]) rfl ⟨by rw [vgS HN.out, HN.out], kR⟩
  | true =>
   have Hck := Lib.hid (show checkP p = 0 by simp [checkP, hok])
   by_cases h1 : 1 ≤ m
   ·have d1 : decide (m < 1) = false := decide_eq_false (by omega)
    have d2 : decide ((16 : Int) < m) = true := decide_eq_true (by
     apply Classical.byContradiction
     intro h2
     exact hr ⟨hok, h1, by omega⟩)
    clear hok hr h1
    go_enter Tryz.func163, Tryz.ntmps163
    go_wp2_with fail
    refine (vax p _ ha).mono ?_
    rintro e w1 ⟨rfl, hK1⟩
    rw [Hck.out]
    have C1 := B1.keep hK1
    clear hW p0 z
    have z := Blk.frozen C1
    have z0 := Blk.f C1 rfl
    obtain ⟨R, hR, BR, kR⟩ := Blk.putEn C1 zeroE (kW.trans hK1) (by omega)
    simp only [enSet, zeroE, Int.natCast_zero] at hR
    go_wp2_with fail
    have r := Blk.f BR rfl
    exact bodyPost_ret (v := .tuple #[enV zeroE, .int .i64 2]) (by simp [results, Tryz.results163, go_sem, r, zeroE]) rfl ⟨by rw [vgS HN.out, HN.out], kR⟩
   ·have d1 : decide (m < 1) = true := decide_eq_true (by omega)
    clear hok hr h1
    go_enter Tryz.func163, Tryz.ntmps163
    go_wp2_with fail
    refine (vax p _ ha).mono ?_
    rintro e w1 ⟨rfl, hK1⟩
    rw [Hck.out]
    have C1 := B1.keep hK1
    clear hW p0 z
    have z := Blk.frozen C1
    have z0 := Blk.f C1 rfl
    obtain ⟨R, hR, BR, kR⟩ := Blk.putEn C1 zeroE (kW.trans hK1) (by omega)
    simp only [enSet, zeroE, Int.natCast_zero] at hR
    go_wp2_with fail
    have r := Blk.f BR rfl
    exact bodyPost_ret (v := .tuple #[enV zeroE, .int .i64 2]) (by simp [results, Tryz.results163, go_sem, r, zeroE]) rfl ⟨by rw [vgS HN.out, HN.out], kR⟩
def OfPost (p : PI) (w : World) (e : Ending) (w' : World) : Prop := ∃ x0 x1 x2 x3 x4 x5 : Int, e = .returned (.tuple #[.agg #[.int .i64 x0, .int .i64 x1, .int .u32 x2, .int .u32 x3, .int .u32 x4, .int .u32 x5], .int .i64 (if toldB p then 0 else 2)]) ∧ Kp w w'
theorem viX {p : PI} (ha : p.a < 4294967296) : goodP p = toldB p := by
 unfold goodP toldB
 cases hok : p.okB with
 | false => rfl
 | true => rw [viW p.a (show p.l.toNat ≤ 32 from (pn_ok hok ha).1.2.1)]
theorem vna (p : PI) (w : World) (ha : p.a < 4294967296) : Calls Tryz.prog 163 #[.agg #[.int .u32 p.a, .int .i64 p.l], .int .i64 1] w (OfPost p w) :=
 (of_g p 1 w ha).mono (fun e w' h => by
  obtain ⟨rfl, k⟩ := h
  have e2 : ofN p 1 = if toldB p then 0 else 2 := by
   unfold ofN
   rw [viX ha]
   simp
  exact ⟨_, _, _, _, _, _, by rw [e2], k⟩)
set_option maxRecDepth 100000 in
theorem vhI (r : Rt) (w : World) (ha : r.p.a < 4294967296) : Calls Tryz.prog 173 #[.agg #[.int .u32 r.p.a, .int .i64 r.p.l, .int .i64 r.s, .int .i64 r.m, .int .i64 r.l, .int .i64 r.f, .int .u32 r.x, .int .i64 r.d, .bool r.c]] w fun e w' => e = .returned (.bool (toldB r.p)) ∧ Kp w w' := by
 go_enter Tryz.func173, Tryz.ntmps173
 go_wp2_with fail
 refine (vna r.p _ ha).mono ?_
 rintro e w1 ⟨x0, x1, x2, x3, x4, x5, rfl, hK1⟩
 have k1 : Kp w w1 := ((Kp.refl _).alloc _).trans hK1
 cases h : toldB r.p with
 | true =>
  have H := Lib.hid h; clear h
  simp only [if_true]
  go_wp2_with fail
  go_ret
  exact ⟨by rw [H.out]; rfl, k1.alloc _⟩
 | false =>
  have H := Lib.hid h; clear h
  simp only [Bool.false_eq_true, if_false]
  go_wp2_with fail
  go_ret
  exact ⟨by rw [H.out]; rfl, k1.alloc _⟩
theorem vdw (w : World) (n : Nat) (e : Bool) (k : Int) : (Instr.checkKey e (n + 1) 50 (.int .i64 k)).run Tryz.prog w = .ok () w := by
 unfold Instr.checkKey
 simp [run_underlying Tryz.underlying50, Result.andThen]
theorem veK (w : World) (k : Int) (es : List MapEntry) {r : Option (Nat × Value)} (h : Instr.findNow (.int .i64) (.int .i64 k) es 0 = some r) : (Instr.findKey 50 (.int .i64 k) es).run Tryz.prog w = .ok r w := by
 unfold Instr.findKey
 simp [run_underlying Tryz.underlying50, Result.andThen, h]
theorem vnH (w : World) (o o' : Obj) : ({ w.alloc o with heap := (w.alloc o).heap.setIfInBounds w.heap.size o' } : World) = w.alloc o' := by
 have h : (w.heap.push o).setIfInBounds w.heap.size o' = w.heap.push o' := by
  apply Array.ext_getElem?
  intro i
  rw [Array.getElem?_setIfInBounds, Array.getElem?_push, Array.getElem?_push]
  by_cases e : w.heap.size = i
  ·subst e; simp
  ·simp [e, Ne.symm e]
 unfold World.alloc
 simp only [h]
theorem vdx (w : World) (es : Array MapEntry) (clock : Nat) (k : Int) (v : Value) (h : Instr.findNow (.int .i64) (.int .i64 k) es.toList 0 = some none) :
  (Instr.mapUpdate 300 (.map (some w.heap.size)) (.int .i64 k) v).run Tryz.prog (w.alloc (.map es clock)) = .ok () (w.alloc (.map (es.push { key := .int .i64 k, val := v, born := clock }) (clock + 1))) := by
 have hb : (w.alloc (.map es clock)).heap[w.heap.size]? = some (.map es clock) := World.alloc_heap_new w _
 unfold Instr.mapUpdate
 simp [run_underlying Tryz.underlying300, MapKept.run_getObj_map hb, vdw, veK _ _ _ h, MapKept.run_setObj_map _ hb, Result.andThen]
 exact vnH w _ _
theorem ins0 (w : World) (v0 : Value) : (Instr.mapUpdate 300 (.map (some w.heap.size)) (.int .i64 0) v0).run Tryz.prog (w.alloc (.map #[] 0)) = .ok () (w.alloc (.map #[{ key := .int .i64 0, val := v0, born := 0 }] 1)) := vdx w #[] 0 0 v0 rfl
theorem ins1 (w : World) (v0 v1 : Value) : (Instr.mapUpdate 300 (.map (some w.heap.size)) (.int .i64 1) v1).run Tryz.prog (w.alloc (.map #[{ key := .int .i64 0, val := v0, born := 0 }] 1)) = .ok () (w.alloc (.map #[{ key := .int .i64 0, val := v0, born := 0 }, { key := .int .i64 1, val := v1, born := 1 }] 2)) := vdx w #[{ key := .int .i64 0, val := v0, born := 0 }] 1 1 v1 rfl
theorem ins2 (w : World) (v0 v1 v2 : Value) : (Instr.mapUpdate 300 (.map (some w.heap.size)) (.int .i64 2) v2).run Tryz.prog (w.alloc (.map #[{ key := .int .i64 0, val := v0, born := 0 }, { key := .int .i64 1, val := v1, born := 1 }] 2)) = .ok () (w.alloc (.map #[{ key := .int .i64 0, val := v0, born := 0 }, { key := .int .i64 1, val := v1, born := 1 }, { key := .int .i64 2, val := v2, born := 2 }] 3)) := vdx w #[{ key := .int .i64 0, val := v0, born := 0 }, { key := .int .i64 1, val := v1, born := 1 }] 2 2 v2 rfl
theorem ins3 (w : World) (v0 v1 v2 v3 : Value) : (Instr.mapUpdate 300 (.map (some w.heap.size)) (.int .i64 3) v3).run Tryz.prog (w.alloc (.map #[{ key := .int .i64 0, val := v0, born := 0 }, { key := .int .i64 1, val := v1, born := 1 }, { key := .int .i64 2, val := v2, born := 2 }] 3)) = .ok () (w.alloc (.map #[{ key := .int .i64 0, val := v0, born := 0 }, { key := .int .i64 1, val := v1, born := 1 }, { key := .int .i64 2, val := v2, born := 2 }, { key := .int .i64 3, val := v3, born := 3 }] 4)) := vdx w #[{ key := .int .i64 0, val := v0, born := 0 }, { key := .int .i64 1, val := v1, born := 1 }, { key := .int .i64 2, val := v2, born := 2 }] 3 3 v3 rfl
theorem ins4 (w : World) (v0 v1 v2 v3 v4 : Value) : (Instr.mapUpdate 300 (.map (some w.heap.size)) (.int .i64 4) v4).run Tryz.prog (w.alloc (.map #[{ key := .int .i64 0, val := v0, born := 0 }, { key := .int .i64 1, val := v1, born := 1 }, { key := .int .i64 2, val := v2, born := 2 }, { key := .int .i64 3, val := v3, born := 3 }] 4)) = .ok () (w.alloc (.map #[{ key := .int .i64 0, val := v0, born := 0 }, { key := .int .i64 1, val := v1, born := 1 }, { key := .int .i64 2, val := v2, born := 2 }, { key := .int .i64 3, val := v3, born := 3 }, { key := .int .i64 4, val := v4, born := 4 }] 5)) := vdx w #[{ key := .int .i64 0, val := v0, born := 0 }, { key := .int .i64 1, val := v1, born := 1 }, { key := .int .i64 2, val := v2, born := 2 }, { key := .int .i64 3, val := v3, born := 3 }] 4 4 v4 rfl
def stFn : Nat → FuncId
 | 0 => 244
 | 1 => 247
 | 2 => 248
 | 3 => 250
 | _ => 251
def stV (k : Nat) : Value := .iface 302 (.func (.func (stFn k)) #[] #[])
def stE (k : Nat) : MapEntry := { key := .int .i64 k, val := stV k, born := k }
set_option maxRecDepth 100000 in
theorem veq (w : World) : Calls Tryz.prog 172 #[] w fun e w' => e = .returned (.map (some w.heap.size)) ∧ w' = w.alloc (.map #[stE 0, stE 1, stE 2, stE 3, stE 4] 5) := by
 have hmm := @run_makeMap Tryz.prog
 have i0 := ins0 w
 have i1 := ins1 w
 have i2 := ins2 w
 have i3 := ins3 w
 have i4 := ins4 w
 go_enter Tryz.func172, Tryz.ntmps172
 go_wp2_with fail
 go_ret
 exact ⟨rfl, rfl⟩
theorem vnI (k : Int) : Instr.findNow (.int .i64) (.int .i64 k) [stE 0, stE 1, stE 2, stE 3, stE 4] 0 =
  some (if k = 0 then some (0, stV 0) else if k = 1 then some (1, stV 1) else if k = 2 then some (2, stV 2) else if k = 3 then some (3, stV 3) else if k = 4 then some (4, stV 4) else none) := by
 have hb : ∀ (a b : Int), (a == b) = decide (a = b) := fun a b => by cases h : a == b <;> simp_all
 simp only [Instr.findNow, Instr.sameNow, stE, if_true, hb]
 by_cases h0 : k = 0
 ·simp [h0]
 ·by_cases h1 : k = 1
  ·simp [h1]
  ·by_cases h2 : k = 2
   ·simp [h2]
   ·by_cases h3 : k = 3
    ·simp [h3]
    ·by_cases h4 : k = 4
     ·simp [h4]
     ·simp [h0, h1, h2, h3, h4]
theorem vlu (w : World) (r : Nat) (hr : w.heap[r]? = some (.map #[stE 0, stE 1, stE 2, stE 3, stE 4] 5)) (k : Int) (j : Nat) (v : Value) (h : Instr.findNow (.int .i64) (.int .i64 k) [stE 0, stE 1, stE 2, stE 3, stE 4] 0 = some (some (j, v))) :
  (Instr.lookup 300 (.map (some r)) (.int .i64 k) true).run Tryz.prog w = .ok (.tuple #[v, .bool true]) w := by
 unfold Instr.lookup
 simp [run_underlying Tryz.underlying300, MapKept.run_getObj_map hr, vdw, veK _ _ _ h, Result.andThen]
theorem viY (w : World) : (zeroValue 20).run Tryz.prog w = .ok .nilIface w := by kernel_rfl
theorem viZ (w : World) (r : Nat) (hr : w.heap[r]? = some (.map #[stE 0, stE 1, stE 2, stE 3, stE 4] 5)) (k : Int) (h : Instr.findNow (.int .i64) (.int .i64 k) [stE 0, stE 1, stE 2, stE 3, stE 4] 0 = some none) :
  (Instr.lookup 300 (.map (some r)) (.int .i64 k) true).run Tryz.prog w = .ok (.tuple #[.nilIface, .bool false]) w := by
 unfold Instr.lookup
 simp [run_underlying Tryz.underlying300, MapKept.run_getObj_map hr, vdw, veK _ _ _ h, Result.andThen, viY]
end

section
theorem vam {P : Program} {Q : Exit → Act → World → Prop} {a : Act} {w : World} {fuel : Nat} {L : List Oper} {listed : Array Bool} (k : Nat) (hf : fuel = (L.drop k).length)
  (hB : Region.seqB .any L.toArray (L.drop k).length k listed = true) (h : wpList P L.toArray Q (L.drop k) a w) : wpAny P .any L.toArray Q fuel listed a w := by
 subst hf
 exact wpAny_of_seq (L.drop k) k listed a w (fun j => by simp) hB h
end

end Go.Proofs.YtgopnfacklmkaaaGreatDoor
