/- Lemmas and contracts for the theorem of this claim: VWhy, VRtA. -/
import Derived.Test.YtffckpkikdlbpaaGreatDoorZvAd
set_option linter.all false
set_option maxHeartbeats 16000000
namespace Go.Proofs.YtffckpkikdlbpaaGreatDoor
section
open Go.RowKit
def badKind (a n : Nat) : Bool := if kindAd a = 6 then false else if kindAd a = 1 then decide (n ≠ 0) else true
theorem vcW (a : Nat) : 1 ≤ kindAd a ∧ kindAd a ≤ 6 := by unfold kindAd; split <;> (try split) <;> (try split) <;> (try split) <;> (try split) <;> omega
theorem vhS (n : Nat) (h : n ≤ 32) : ((maskN n : Int) != 0) = decide (n ≠ 0) := by
 have h1 : 2 ^ (32 - n) ≤ 4294967296 := vcc n
 by_cases e : n = 0
 ·subst e; decide
 ·have : 2 ^ (32 - n) < 2 ^ 32 := Nat.pow_lt_pow_right (by omega) (by omega)
  have h3 : maskN n ≠ 0 := by unfold maskN; omega
  simp [e, h3]
set_option maxRecDepth 100000 in
theorem vmo (a n : Nat) (w : World) (ha : a < 4294967296) (hn : n ≤ 32) (hc : cut a n = a) : Calls Tryz.prog 198 #[.agg #[.int .i64 2, .int .i64 0, .int .u32 a, .int .u32 (maskN n), .int .u32 0, .int .u32 1]] w fun e w' => e = .returned (.bool false) ∧ Kp w w' := by
 clear ha hn hc
 go_enter Tryz.func198, Tryz.ntmps198
 go_wp2_with fail
 go_ret
 exact ⟨rfl, (Kp.refl _).alloc _⟩
set_option maxRecDepth 100000 in
theorem vmp (a n : Nat) (w : World) (ha : a < 4294967296) (hn : n ≤ 32) (hc : cut a n = a) : Calls Tryz.prog 199 #[.agg #[.int .i64 2, .int .i64 0, .int .u32 a, .int .u32 (maskN n), .int .u32 0, .int .u32 1]] w fun e w' => e = .returned (.bool false) ∧ Kp w w' := by
 clear hc
 go_enter Tryz.func199, Tryz.ntmps199
 go_wp2_with fail
 refine (vnt n _ hn).mono ?_
 rintro e w' ⟨rfl, rfl⟩
 go_wp2_with fail
 go_ret
 exact ⟨rfl, (Kp.refl _).alloc _⟩
set_option maxRecDepth 100000 in
theorem vmq (a n : Nat) (w : World) (ha : a < 4294967296) (hn : n ≤ 32) (hc : cut a n = a) : Calls Tryz.prog 201 #[.agg #[.int .i64 2, .int .i64 0, .int .u32 a, .int .u32 (maskN n), .int .u32 0, .int .u32 1]] w fun e w' => e = .returned (.bool false) ∧ Kp w w' := by
 have hz := vcL ha hn
 rw [show (!decide (cut a n = a)) = false by simp [hc]] at hz
 clear hc
 go_enter Tryz.func201, Tryz.ntmps201
 go_wp2_with fail
 go_ret
 exact ⟨rfl, (Kp.refl _).alloc _⟩
set_option maxRecDepth 100000 in
theorem vmr (a n : Nat) (w : World) (ha : a < 4294967296) (hn : n ≤ 32) (hc : cut a n = a) : Calls Tryz.prog 203 #[.agg #[.int .i64 2, .int .i64 0, .int .u32 a, .int .u32 (maskN n), .int .u32 0, .int .u32 1]] w fun e w' => e = .returned (.bool false) ∧ Kp w w' := by
 clear ha hn hc
 go_enter Tryz.func203, Tryz.ntmps203
 go_wp2_with fail
 go_ret
 exact ⟨rfl, (Kp.refl _).alloc _⟩
set_option maxRecDepth 100000 in
theorem vms (a n : Nat) (w : World) (ha : a < 4294967296) (hn : n ≤ 32) (hc : cut a n = a) : Calls Tryz.prog 204 #[.agg #[.int .i64 2, .int .i64 0, .int .u32 a, .int .u32 (maskN n), .int .u32 0, .int .u32 1]] w fun e w' => e = .returned (.bool false) ∧ Kp w w' := by
 clear ha hn hc
 go_enter Tryz.func204, Tryz.ntmps204
 go_wp2_with fail
 go_ret
 exact ⟨rfl, (Kp.refl _).alloc _⟩
set_option maxRecDepth 100000 in
theorem vmt (a n : Nat) (w : World) (ha : a < 4294967296) (hn : n ≤ 32) (hc : cut a n = a) : Calls Tryz.prog 202 #[.agg #[.int .i64 2, .int .i64 0, .int .u32 a, .int .u32 (maskN n), .int .u32 0, .int .u32 1]] w fun e w' => e = .returned (.bool (badKind a n)) ∧ Kp w w' := by
 have hm := vhS n hn
 have Hm := Lib.hid hm; clear hm
 obtain ⟨K, hK⟩ : ∃ K, kindAd a = K := ⟨_, rfl⟩
 have hr := vcW a
 rw [hK] at hr
 have HK := Lib.hid hK; clear hK hc
 obtain ⟨W, hW, kW, B0⟩ := Blk.al1 (w := w) rfl #[.int .i64 2, .int .i64 0, .int .u32 a, .int .u32 (maskN n), .int .u32 0, .int .u32 1] 192
 have c2 : W.cell? ⟨w.heap.size, 2, none⟩ = some (.int .u32 a) := B0.cell 2
 go_enter Tryz.func202, Tryz.ntmps202
 go_wp2_with fail
 refine (vdE a _ ha).mono ?_
 rintro e w1 ⟨rfl, hK1⟩
 have k1 := kW.trans hK1
 have B1 := B0.keep hK1
 have d3 : w1.cell? ⟨w.heap.size, 3, none⟩ = some (.int .u32 (maskN n)) := B1.cell 3
 rw [HK.out]
 clear hW c2
 have hk6 : K = 1 ∨ K = 2 ∨ K = 3 ∨ K = 4 ∨ K = 5 ∨ K = 6 := by omega
 rcases hk6 with rfl | rfl | rfl | rfl | rfl | rfl
 ·have H := Lib.hid (show badKind a n = decide (n ≠ 0) by simp [badKind, HK.out])
  go_wp2_with fail
  go_ret
  exact ⟨by rw [H.out, ← Hm.out]; rfl, k1⟩
 ·have H := Lib.hid (show badKind a n = true by simp [badKind, HK.out])
  go_wp2_with fail
  go_ret
  exact ⟨by rw [H.out]; rfl, k1⟩
 ·have H := Lib.hid (show badKind a n = true by simp [badKind, HK.out])
  go_wp2_with fail
  go_ret
  exact ⟨by rw [H.out]; rfl, k1⟩
 ·have H := Lib.hid (show badKind a n = true by simp [badKind, HK.out])
  go_wp2_with fail
  go_ret
  exact ⟨by rw [H.out]; rfl, k1⟩
 ·have H := Lib.hid (show badKind a n = true by simp [badKind, HK.out])
  go_wp2_with fail
  go_ret
  exact ⟨by rw [H.out]; rfl, k1⟩
 ·have H := Lib.hid (show badKind a n = false by simp [badKind, HK.out])
  go_wp2_with fail
  go_ret
  exact ⟨by rw [H.out]; rfl, k1⟩
def whyCells : Array Value := #[.int .i64 1, .func (.func 198) #[] #[], .int .i64 2, .func (.func 199) #[] #[], .int .i64 3, .func (.func 201) #[] #[], .int .i64 4, .func (.func 202) #[] #[], .int .i64 5, .func (.func 203) #[] #[], .int .i64 6, .func (.func 204) #[] #[]]
theorem vhT (w : World) : Calls Tryz.prog 193 #[] w fun e w' => e = .returned (.slice (some ⟨w.heap.size, 0, none⟩) 6 6) ∧ Blk w' w.heap.size 257 whyCells ∧ Kp w w' := by
 go_enter Tryz.func193, Tryz.ntmps193
 go_wp2_with fail
 go_ret
 exact ⟨rfl, Blk.new w _ _, (Kp.refl _).alloc _⟩
def whyN (a n : Nat) : Int := if badKind a n then 4 else 0
set_option maxRecDepth 100000 in
theorem vmu (a n : Nat) (w : World) (ha : a < 4294967296) (hn : n ≤ 32) (hc : cut a n = a) : Calls Tryz.prog 169 #[.agg #[.int .i64 2, .int .i64 0, .int .u32 a, .int .u32 (maskN n), .int .u32 0, .int .u32 1]] w fun e w' => e = .returned (.int .i64 (whyN a n)) ∧ Kp w w' := by
 have Hc := Lib.hid hc; clear hc
 go_enter Tryz.func169, Tryz.ntmps169
 go_wp2_with fail
 refine (vhT _).mono ?_
 simp only [World.size_alloc]
 rintro e w1 ⟨rfl, hR, hK1⟩
 have hB := (Blk.new w 192 #[.int .i64 2, .int .i64 0, .int .u32 a, .int .u32 (maskN n), .int .u32 0, .int .u32 1]).keep hK1
 have hk1 : Kp w w1 := ((Kp.refl _).alloc _).trans hK1
 clear hK1
 go_wp2_with fail
 go_loopw [7] (fun i wr => ∃ k : Nat, k ≤ 6 ∧ i = .int .i64 k ∧ Hid (3 < k → badKind a n = false) ∧ Kp w1 wr) (fun i _ => 6 - (intOf i).toNat)
 case atStart => exact ⟨0, by omega, rfl, fun h => absurd h (by omega), Kp.refl _⟩
 case round =>
  obtain ⟨k, hk, rfl, hall, hK⟩ := hrel
  have B := hB.keep hK
  have R := hR.keep hK
  obtain ⟨e0, e1, e2, e3, e4, e5⟩ := Blk.v6 B (.int .i64 2) (.int .i64 0) (.int .u32 a) (.int .u32 (maskN n)) (.int .u32 0) (.int .u32 1) rfl
  have kw := hk1.trans hK
  have hlt := B.lt
  have hk2 : k = 0 ∨ k = 1 ∨ k = 2 ∨ k = 3 ∨ k = 4 ∨ k = 5 ∨ k = 6 := by omega
  rcases hk2 with rfl | rfl | rfl | rfl | rfl | rfl | rfl
  ·obtain ⟨c0, c1⟩ := Blk.v2 R (.int .i64 1) (.func (.func 198) #[] #[]) rfl
   have D := Blk.new wr 257 #[.int .i64 1, .func (.func 198) #[] #[]]
   go_wp2_with fail
   refine (vmo a n _ ha hn Hc.out).mono ?_
   rintro e w2 ⟨rfl, hK2⟩
   have D2 := D.keep hK2
   have k2 : Kp w1 w2 := (hK.alloc _).trans hK2
   have d0 : w2.cell? ⟨wr.heap.size, 0, none⟩ = some (.int .i64 1) := D2.cell 0
   go_wp2_with fail
   go_roundw
   case rel => exact ⟨1, by omega, by go_num, fun h => absurd h (by omega), k2⟩
   case measure => simp [intOf] <;> omega
  ·obtain ⟨-, -, c0, c1⟩ := Blk.v4 R _ _ (.int .i64 2) (.func (.func 199) #[] #[]) rfl
   have D := Blk.new wr 257 #[.int .i64 2, .func (.func 199) #[] #[]]
   go_wp2_with fail
   refine (vmp a n _ ha hn Hc.out).mono ?_
   rintro e w2 ⟨rfl, hK2⟩
   have D2 := D.keep hK2
   have k2 : Kp w1 w2 := (hK.alloc _).trans hK2
   have d0 : w2.cell? ⟨wr.heap.size, 0, none⟩ = some (.int .i64 2) := D2.cell 0
   go_wp2_with fail
   go_roundw
   case rel => exact ⟨2, by omega, by go_num, fun h => absurd h (by omega), k2⟩
   case measure => simp [intOf] <;> omega
  ·obtain ⟨-, -, -, -, c0, c1⟩ := Blk.v6 R _ _ _ _ (.int .i64 3) (.func (.func 201) #[] #[]) rfl
   have D := Blk.new wr 257 #[.int .i64 3, .func (.func 201) #[] #[]]
   go_wp2_with fail
   refine (vmq a n _ ha hn Hc.out).mono ?_
   rintro e w2 ⟨rfl, hK2⟩
   have D2 := D.keep hK2
   have k2 : Kp w1 w2 := (hK.alloc _).trans hK2
   have d0 : w2.cell? ⟨wr.heap.size, 0, none⟩ = some (.int .i64 3) := D2.cell 0
   go_wp2_with fail
   go_roundw
   case rel => exact ⟨3, by omega, by go_num, fun h => absurd h (by omega), k2⟩
   case measure => simp [intOf] <;> omega
  ·obtain ⟨-, -, -, -, -, -, c0, c1⟩ := Blk.v8 R _ _ _ _ _ _ (.int .i64 4) (.func (.func 202) #[] #[]) rfl
   have D := Blk.new wr 257 #[.int .i64 4, .func (.func 202) #[] #[]]
   go_wp2_with fail
   refine (vmt a n _ ha hn Hc.out).mono ?_
   rintro e w2 ⟨rfl, hK2⟩
   have D2 := D.keep hK2
   have k2 : Kp w1 w2 := (hK.alloc _).trans hK2
   have d0 : w2.cell? ⟨wr.heap.size, 0, none⟩ = some (.int .i64 4) := D2.cell 0
   cases hb : badKind a n with
   | true =>
    have H := Lib.hid (show whyN a n = 4 by simp [whyN, hb])
    clear hb
    go_wp2_with fail
    go_ret
    exact ⟨by rw [H.out]; rfl, hk1.trans k2⟩
   | false =>
    have Hb := Lib.hid hb; clear hb
    go_wp2_with fail
    go_roundw
    case rel => exact ⟨4, by omega, by go_num, fun h => Hb.out, k2⟩
    case measure => simp [intOf] <;> omega
  ·obtain ⟨-, -, -, -, -, -, -, -, c0, c1⟩ := Blk.p10 R
   have D := Blk.new wr 257 #[.int .i64 5, .func (.func 203) #[] #[]]
   go_wp2_with fail
   refine (vmr a n _ ha hn Hc.out).mono ?_
   rintro e w2 ⟨rfl, hK2⟩
   have D2 := D.keep hK2
   have k2 : Kp w1 w2 := (hK.alloc _).trans hK2
   have d0 : w2.cell? ⟨wr.heap.size, 0, none⟩ = some (.int .i64 5) := D2.cell 0
   go_wp2_with fail
   go_roundw
   case rel => exact ⟨5, by omega, by go_num, fun h => hall.out (by omega), k2⟩
   case measure => simp [intOf] <;> omega
  ·obtain ⟨-, -, -, -, -, -, -, -, -, -, c0, c1⟩ := Blk.v12 R _ _ _ _ _ _ _ _ _ _ (.int .i64 6) (.func (.func 204) #[] #[]) rfl
   have D := Blk.new wr 257 #[.int .i64 6, .func (.func 204) #[] #[]]
   go_wp2_with fail
   refine (vms a n _ ha hn Hc.out).mono ?_
   rintro e w2 ⟨rfl, hK2⟩
   have D2 := D.keep hK2
   have k2 : Kp w1 w2 := (hK.alloc _).trans hK2
   have d0 : w2.cell? ⟨wr.heap.size, 0, none⟩ = some (.int .i64 6) := D2.cell 0
   go_wp2_with fail
   go_roundw
   case rel => exact ⟨6, by omega, by go_num, fun h => hall.out (by omega), k2⟩
   case measure => simp [intOf] <;> omega
  ·have H := Lib.hid (show whyN a n = 0 by simp [whyN, hall.out (by omega)])
   clear hall
   go_wp2_with fail
   go_ret
   exact ⟨by rw [H.out]; rfl, kw⟩
structure Rt where
 p : PI
 s : Int
 m : Int
 l : Int
 f : Int
 x : Nat
 d : Int
 c : Bool
def Rt.enc (r : Rt) : List Value := [.int .u32 r.p.a, .int .i64 r.p.l, .int .i64 r.s, .int .i64 r.m, .int .i64 r.l, .int .i64 r.f, .int .u32 r.x, .int .i64 r.d, .bool r.c]
theorem Rt.len (r : Rt) : r.enc.length = 9 := rfl
def toldB (p : PI) : Bool := p.okB && !badKind p.a p.l.toNat
def hasB (r : Rt) (m l : Int) : Bool := (r.m == m) && (r.l == l)
def nowB (r : Rt) : Bool := (r.f == 0) && (((r.x : Int) == 0) && (r.d == 0))
def withB (lo hi n : Int) : Bool := !(decide (n < lo)) && !(decide (hi < n))
def mayB (f : Int) (x : Nat) : Bool := withB 0 15 f && ((kindAd x : Int) == 6)
def someB (r : Rt) : Bool := mayB r.f r.x && withB 0 4611686018427387904 r.d
def stateB (r : Rt) : Bool :=
 if r.s = 0 then hasB r 0 0 && (nowB r && !r.c)
 else if r.s = 1 then hasB r 1 0 && nowB r
 else if r.s = 2 then withB 2 15 r.m && (hasB r r.m 0 && someB r)
 else if r.s = 3 then withB 2 15 r.l && (hasB r 16 r.l && someB r)
 else if r.s = 4 then hasB r 16 0 && someB r
 else false
def checkR (r : Rt) : Int := if stateB r && toldB r.p then 0 else 2
set_option maxRecDepth 100000 in
theorem vbA (lo hi n : Int) (g : Nat) (w : World) (hB : Blk w g 3 #[.int .i64 n]) : Calls Tryz.prog 141 #[.int .i64 lo, .int .i64 hi, .slice (some ⟨g, 0, none⟩) 1 1] w fun e w' => e = .returned (.bool (withB lo hi n)) ∧ w = w' := by
 have c0 : w.cell? ⟨g, 0, none⟩ = some (.int .i64 n) := hB.cell 0
 clear hB
 go_enter Tryz.func141, Tryz.ntmps141
 go_wp2_with fail
 go_loop [11] (fun i => ∃ k : Nat, k ≤ 1 ∧ i = .int .i64 k ∧ Hid (k = 1 → withB lo hi n = true)) (fun i => 1 - (intOf i).toNat)
 case atStart => exact ⟨0, by omega, rfl, fun h => absurd h (by omega)⟩
 case round =>
  obtain ⟨k, hk, rfl, hall⟩ := hrel
  have hk2 : k = 0 ∨ k = 1 := by omega
  rcases hk2 with rfl | rfl
  ·cases h1 : decide (n < lo) with
   | true =>
    have H := Lib.hid (show withB lo hi n = false by simp only [withB, h1]; rfl)
    go_wp2_with fail
    go_ret
    exact ⟨by rw [H.out]; rfl, rfl⟩
   | false =>
    cases h2 : decide (hi < n) with
    | true =>
     have H := Lib.hid (show withB lo hi n = false by simp only [withB, h1, h2]; rfl)
     go_wp2_with fail
     go_ret
     exact ⟨by rw [H.out]; rfl, rfl⟩
    | false =>
     have H := Lib.hid (show withB lo hi n = true by simp only [withB, h1, h2]; rfl)
     go_wp2_with fail
     go_round
     case rel => exact ⟨1, by omega, by go_num, fun _ => H.out⟩
     case measure => simp [intOf] <;> omega
  ·have H := Lib.hid (hall.out rfl)
   clear hall
   go_wp2_with fail
   go_ret
   exact ⟨by rw [H.out]; rfl, rfl⟩
set_option maxRecDepth 100000 in
theorem vcM (lo hi n : Int) (g : Nat) (w : World) (hB : Blk w g 2 #[.int .i64 n]) : Calls Tryz.prog 142 #[.int .i64 lo, .int .i64 hi, .slice (some ⟨g, 0, none⟩) 1 1] w fun e w' => e = .returned (.bool (withB lo hi n)) ∧ w = w' := by
 have c0 : w.cell? ⟨g, 0, none⟩ = some (.int .i64 n) := hB.cell 0
 clear hB
 go_enter Tryz.func142, Tryz.ntmps142
 go_wp2_with fail
 go_loop [11] (fun i => ∃ k : Nat, k ≤ 1 ∧ i = .int .i64 k ∧ Hid (k = 1 → withB lo hi n = true)) (fun i => 1 - (intOf i).toNat)
 case atStart => exact ⟨0, by omega, rfl, fun h => absurd h (by omega)⟩
 case round =>
  obtain ⟨k, hk, rfl, hall⟩ := hrel
  have hk2 : k = 0 ∨ k = 1 := by omega
  rcases hk2 with rfl | rfl
  ·cases h1 : decide (n < lo) with
   | true =>
    have H := Lib.hid (show withB lo hi n = false by simp only [withB, h1]; rfl)
    go_wp2_with fail
    go_ret
    exact ⟨by rw [H.out]; rfl, rfl⟩
   | false =>
    cases h2 : decide (hi < n) with
    | true =>
     have H := Lib.hid (show withB lo hi n = false by simp only [withB, h1, h2]; rfl)
     go_wp2_with fail
     go_ret
     exact ⟨by rw [H.out]; rfl, rfl⟩
    | false =>
     have H := Lib.hid (show withB lo hi n = true by simp only [withB, h1, h2]; rfl)
     go_wp2_with fail
     go_round
     case rel => exact ⟨1, by omega, by go_num, fun _ => H.out⟩
     case measure => simp [intOf] <;> omega
  ·have H := Lib.hid (hall.out rfl)
   clear hall
   go_wp2_with fail
   go_ret
   exact ⟨by rw [H.out]; rfl, rfl⟩
set_option maxRecDepth 100000 in
theorem vcd (r : Rt) (m l : Int) (w : World) : Calls Tryz.prog 172 #[.agg #[.int .u32 r.p.a, .int .i64 r.p.l, .int .i64 r.s, .int .i64 r.m, .int .i64 r.l, .int .i64 r.f, .int .u32 r.x, .int .i64 r.d, .bool r.c], .int .i64 m, .int .i64 l] w fun e w' => e = .returned (.bool (hasB r m l)) ∧ Kp w w' := by
 obtain ⟨W, hW, kW, B0⟩ := Blk.al1 (w := w) rfl #[.int .u32 r.p.a, .int .i64 r.p.l, .int .i64 r.s, .int .i64 r.m, .int .i64 r.l, .int .i64 r.f, .int .u32 r.x, .int .i64 r.d, .bool r.c] 170
 have c0 := Blk.f B0 rfl
 cases h1 : (r.m == m) with
 | true =>
  have H := Lib.hid (show hasB r m l = (r.l == l) by simp only [hasB, h1, Bool.true_and])
  go_enter Tryz.func172, Tryz.ntmps172
  go_wp2_with fail
  go_ret
  exact ⟨by rw [H.out]; rfl, kW⟩
 | false =>
  have H := Lib.hid (show hasB r m l = false by simp only [hasB, h1, Bool.false_and])
  go_enter Tryz.func172, Tryz.ntmps172
  go_wp2_with fail
  go_ret
  exact ⟨by rw [H.out]; rfl, kW⟩
set_option maxRecDepth 100000 in
theorem vcX (r : Rt) (w : World) : Calls Tryz.prog 173 #[.agg #[.int .u32 r.p.a, .int .i64 r.p.l, .int .i64 r.s, .int .i64 r.m, .int .i64 r.l, .int .i64 r.f, .int .u32 r.x, .int .i64 r.d, .bool r.c]] w fun e w' => e = .returned (.bool (nowB r)) ∧ Kp w w' := by
 obtain ⟨W, hW, kW, B0⟩ := Blk.al1 (w := w) rfl #[.int .u32 r.p.a, .int .i64 r.p.l, .int .i64 r.s, .int .i64 r.m, .int .i64 r.l, .int .i64 r.f, .int .u32 r.x, .int .i64 r.d, .bool r.c] 170
 have c0 := Blk.f B0 rfl
 cases h1 : (r.f == 0) with
 | true =>
  cases h2 : ((r.x : Int) == 0) with
  | true =>
   have H := Lib.hid (show nowB r = (r.d == 0) by simp only [nowB, h1, h2, Bool.true_and])
   go_enter Tryz.func173, Tryz.ntmps173
   go_wp2_with fail
   go_ret
   exact ⟨by rw [H.out]; rfl, kW⟩
  | false =>
   have H := Lib.hid (show nowB r = false by simp only [nowB, h1, h2, Bool.true_and, Bool.false_and])
   go_enter Tryz.func173, Tryz.ntmps173
   go_wp2_with fail
   go_ret
   exact ⟨by rw [H.out]; rfl, kW⟩
 | false =>
  have H := Lib.hid (show nowB r = false by simp only [nowB, h1, Bool.false_and])
  go_enter Tryz.func173, Tryz.ntmps173
  go_wp2_with fail
  go_ret
  exact ⟨by rw [H.out]; rfl, kW⟩
set_option maxRecDepth 100000 in
theorem vcY (f : Int) (x : Nat) (w : World) (hx : x < 4294967296) : Calls Tryz.prog 140 #[.int .i64 f, .int .u32 x] w fun e w' => e = .returned (.bool (mayB f x)) ∧ Kp w w' := by
 go_enter Tryz.func140, Tryz.ntmps140
 go_wp2_with fail
 refine (vbA 0 15 f w.heap.size _ (Blk.new w _ _)).mono ?_
 rintro e w1 ⟨rfl, rfl⟩
 cases h1 : withB 0 15 f with
 | true =>
  have H := Lib.hid (show mayB f x = ((kindAd x : Int) == 6) by simp only [mayB, h1, Bool.true_and])
  go_wp2_with fail
  refine (vdE x _ hx).mono ?_
  rintro e w2 ⟨rfl, hK2⟩
  go_wp2_with fail
  go_ret
  exact ⟨by rw [H.out]; rfl, ((Kp.refl _).alloc _).trans hK2⟩
 | false =>
  have H := Lib.hid (show mayB f x = false by simp only [mayB, h1, Bool.false_and])
  go_wp2_with fail
  go_ret
  exact ⟨by rw [H.out]; rfl, (Kp.refl _).alloc _⟩
set_option maxRecDepth 100000 in
theorem vdZ (r : Rt) (w : World) (hx : r.x < 4294967296) : Calls Tryz.prog 176 #[.agg #[.int .u32 r.p.a, .int .i64 r.p.l, .int .i64 r.s, .int .i64 r.m, .int .i64 r.l, .int .i64 r.f, .int .u32 r.x, .int .i64 r.d, .bool r.c]] w fun e w' => e = .returned (.bool (someB r)) ∧ Kp w w' := by
 obtain ⟨W, hW, kW, B0⟩ := Blk.al1 (w := w) rfl #[.int .u32 r.p.a, .int .i64 r.p.l, .int .i64 r.s, .int .i64 r.m, .int .i64 r.l, .int .i64 r.f, .int .u32 r.x, .int .i64 r.d, .bool r.c] 170
 have c0 := Blk.f B0 rfl
 go_enter Tryz.func176, Tryz.ntmps176
 go_wp2_with fail
 refine (vcY r.f r.x _ hx).mono ?_
 rintro e w1 ⟨rfl, hK1⟩
 have k1 := kW.trans hK1
 have B1 := B0.keep hK1
 have d7 := Blk.f B1 rfl
 clear hW c0
 cases h1 : mayB r.f r.x with
 | true =>
  have H := Lib.hid (show someB r = withB 0 4611686018427387904 r.d by simp only [someB, h1, Bool.true_and])
  go_wp2_with fail
  refine (vcM 0 4611686018427387904 r.d w1.heap.size _ (Blk.new w1 _ _)).mono ?_
  rintro e w2 ⟨rfl, rfl⟩
  go_wp2_with fail
  go_ret
  exact ⟨by rw [H.out]; rfl, k1.alloc _⟩
 | false =>
  have H := Lib.hid (show someB r = false by simp only [someB, h1, Bool.false_and])
  go_wp2_with fail
  go_ret
  exact ⟨by rw [H.out]; rfl, k1⟩
set_option maxRecDepth 100000 in
theorem vmv (r : Rt) (w : World) : Calls Tryz.prog 171 #[.agg #[.int .u32 r.p.a, .int .i64 r.p.l, .int .i64 r.s, .int .i64 r.m, .int .i64 r.l, .int .i64 r.f, .int .u32 r.x, .int .i64 r.d, .bool r.c]] w fun e w' => e = .returned (.bool (hasB r 0 0 && (nowB r && !r.c))) ∧ Kp w w' := by
 obtain ⟨W, hW, kW, B0⟩ := Blk.al1 (w := w) rfl #[.int .u32 r.p.a, .int .i64 r.p.l, .int .i64 r.s, .int .i64 r.m, .int .i64 r.l, .int .i64 r.f, .int .u32 r.x, .int .i64 r.d, .bool r.c] 170
 have c0 := Blk.f B0 rfl
 go_enter Tryz.func171, Tryz.ntmps171
 go_wp2_with fail
 refine (vcd r 0 0 _).mono ?_
 rintro e w1 ⟨rfl, hK1⟩
 have k1 := kW.trans hK1
 have B1 := B0.keep hK1
 clear hW c0
 have c0 := Blk.f B1 rfl
 cases h1 : hasB r 0 0 with
 | true =>
  go_wp2_with fail
  refine (vcX r _).mono ?_
  rintro e w2 ⟨rfl, hK2⟩
  have k2 := k1.trans hK2
  have B2 := B1.keep hK2
  have f8 := Blk.f B2 rfl
  clear c0
  cases h2 : nowB r with
  | true =>
   have H := Lib.hid (show (hasB r 0 0 && (nowB r && !r.c)) = !r.c by simp only [h1, h2, Bool.true_and])
   go_wp2_with fail
   go_ret
   exact ⟨by rw [H.out]; rfl, k2⟩
  | false =>
   have H := Lib.hid (show (hasB r 0 0 && (nowB r && !r.c)) = false by simp only [h1, h2, Bool.true_and, Bool.false_and])
   go_wp2_with fail
   go_ret
   exact ⟨by rw [H.out]; rfl, k2⟩
 | false =>
  have H := Lib.hid (show (hasB r 0 0 && (nowB r && !r.c)) = false by simp only [h1, Bool.false_and])
  go_wp2_with fail
  go_ret
  exact ⟨by rw [H.out]; rfl, k1⟩
set_option maxRecDepth 100000 in
theorem vmw (r : Rt) (w : World) : Calls Tryz.prog 174 #[.agg #[.int .u32 r.p.a, .int .i64 r.p.l, .int .i64 r.s, .int .i64 r.m, .int .i64 r.l, .int .i64 r.f, .int .u32 r.x, .int .i64 r.d, .bool r.c]] w fun e w' => e = .returned (.bool (hasB r 1 0 && nowB r)) ∧ Kp w w' := by
 obtain ⟨W, hW, kW, B0⟩ := Blk.al1 (w := w) rfl #[.int .u32 r.p.a, .int .i64 r.p.l, .int .i64 r.s, .int .i64 r.m, .int .i64 r.l, .int .i64 r.f, .int .u32 r.x, .int .i64 r.d, .bool r.c] 170
 have c0 := Blk.f B0 rfl
 go_enter Tryz.func174, Tryz.ntmps174
 go_wp2_with fail
 refine (vcd r 1 0 _).mono ?_
 rintro e w1 ⟨rfl, hK1⟩
 have k1 := kW.trans hK1
 have B1 := B0.keep hK1
 clear hW c0
 have c0 := Blk.f B1 rfl
 cases h1 : hasB r 1 0 with
 | true =>
  go_wp2_with fail
  refine (vcX r _).mono ?_
  rintro e w2 ⟨rfl, hK2⟩
  have k2 := k1.trans hK2
  have H := Lib.hid (show (hasB r 1 0 && nowB r) = nowB r by simp only [h1, Bool.true_and])
  clear c0
  go_wp2_with fail
  go_ret
  exact ⟨by rw [H.out]; rfl, k2⟩
 | false =>
  have H := Lib.hid (show (hasB r 1 0 && nowB r) = false by simp only [h1, Bool.false_and])
  go_wp2_with fail
  go_ret
  exact ⟨by rw [H.out]; rfl, k1⟩
set_option maxRecDepth 100000 in
theorem vmx (r : Rt) (w : World) (hx : r.x < 4294967296) : Calls Tryz.prog 178 #[.agg #[.int .u32 r.p.a, .int .i64 r.p.l, .int .i64 r.s, .int .i64 r.m, .int .i64 r.l, .int .i64 r.f, .int .u32 r.x, .int .i64 r.d, .bool r.c]] w fun e w' => e = .returned (.bool (hasB r 16 0 && someB r)) ∧ Kp w w' := by
 obtain ⟨W, hW, kW, B0⟩ := Blk.al1 (w := w) rfl #[.int .u32 r.p.a, .int .i64 r.p.l, .int .i64 r.s, .int .i64 r.m, .int .i64 r.l, .int .i64 r.f, .int .u32 r.x, .int .i64 r.d, .bool r.c] 170
 have c0 := Blk.f B0 rfl
 go_enter Tryz.func178, Tryz.ntmps178
 go_wp2_with fail
 refine (vcd r 16 0 _).mono ?_
 rintro e w1 ⟨rfl, hK1⟩
 have k1 := kW.trans hK1
 have B1 := B0.keep hK1
 clear hW c0
 have c0 := Blk.f B1 rfl
 cases h1 : hasB r 16 0 with
 | true =>
  go_wp2_with fail
  refine (vdZ r _ hx).mono ?_
  rintro e w2 ⟨rfl, hK2⟩
  have k2 := k1.trans hK2
  have H := Lib.hid (show (hasB r 16 0 && someB r) = someB r by simp only [h1, Bool.true_and])
  clear c0
  go_wp2_with fail
  go_ret
  exact ⟨by rw [H.out]; rfl, k2⟩
 | false =>
  have H := Lib.hid (show (hasB r 16 0 && someB r) = false by simp only [h1, Bool.false_and])
  go_wp2_with fail
  go_ret
  exact ⟨by rw [H.out]; rfl, k1⟩
set_option maxRecDepth 100000 in
theorem vmy (r : Rt) (w : World) (hx : r.x < 4294967296) : Calls Tryz.prog 175 #[.agg #[.int .u32 r.p.a, .int .i64 r.p.l, .int .i64 r.s, .int .i64 r.m, .int .i64 r.l, .int .i64 r.f, .int .u32 r.x, .int .i64 r.d, .bool r.c]] w fun e w' => e = .returned (.bool (withB 2 15 r.m && (hasB r r.m 0 && someB r))) ∧ Kp w w' := by
 obtain ⟨W, hW, kW, B0⟩ := Blk.al1 (w := w) rfl #[.int .u32 r.p.a, .int .i64 r.p.l, .int .i64 r.s, .int .i64 r.m, .int .i64 r.l, .int .i64 r.f, .int .u32 r.x, .int .i64 r.d, .bool r.c] 170
 have c0 := Blk.f B0 rfl
 go_enter Tryz.func175, Tryz.ntmps175
 go_wp2_with fail
 refine (vbA 2 15 r.m W.heap.size _ (Blk.new W _ _)).mono ?_
 rintro e w1 ⟨rfl, rfl⟩
 have k1 := kW.alloc (.cells #[.int .i64 r.m] 3)
 have B1 := B0.alloc (.cells #[.int .i64 r.m] 3)
 obtain ⟨V, hV⟩ : ∃ V, W.alloc (.cells #[.int .i64 r.m] 3) = V := ⟨_, rfl⟩
 rw [hV] at k1 B1 ⊢
 clear hW c0
 clear hV
 have c0 := Blk.f B1 rfl
 cases h0 : withB 2 15 r.m with
 | true =>
  go_wp2_with fail
  refine (vcd r r.m 0 _).mono ?_
  rintro e w2 ⟨rfl, hK2⟩
  have k2 := k1.trans hK2
  have B2 := B1.keep hK2
  clear c0
  have c0 := Blk.f B2 rfl
  cases h1 : hasB r r.m 0 with
  | true =>
   go_wp2_with fail
   refine (vdZ r _ hx).mono ?_
   rintro e w3 ⟨rfl, hK3⟩
   have k3 := k2.trans hK3
   have H := Lib.hid (show (withB 2 15 r.m && (hasB r r.m 0 && someB r)) = someB r by simp only [h0, h1, Bool.true_and])
   clear c0
   go_wp2_with fail
   go_ret
   exact ⟨by rw [H.out]; rfl, k3⟩
  | false =>
   have H := Lib.hid (show (withB 2 15 r.m && (hasB r r.m 0 && someB r)) = false by simp only [h0, h1, Bool.true_and, Bool.false_and])
   go_wp2_with fail
   go_ret
   exact ⟨by rw [H.out]; rfl, k2⟩
 | false =>
  have H := Lib.hid (show (withB 2 15 r.m && (hasB r r.m 0 && someB r)) = false by simp only [h0, Bool.false_and])
  go_wp2_with fail
  go_ret
  exact ⟨by rw [H.out]; rfl, k1⟩
set_option maxRecDepth 100000 in
theorem vmz (r : Rt) (w : World) (hx : r.x < 4294967296) : Calls Tryz.prog 177 #[.agg #[.int .u32 r.p.a, .int .i64 r.p.l, .int .i64 r.s, .int .i64 r.m, .int .i64 r.l, .int .i64 r.f, .int .u32 r.x, .int .i64 r.d, .bool r.c]] w fun e w' => e = .returned (.bool (withB 2 15 r.l && (hasB r 16 r.l && someB r))) ∧ Kp w w' := by
 obtain ⟨W, hW, kW, B0⟩ := Blk.al1 (w := w) rfl #[.int .u32 r.p.a, .int .i64 r.p.l, .int .i64 r.s, .int .i64 r.m, .int .i64 r.l, .int .i64 r.f, .int .u32 r.x, .int .i64 r.d, .bool r.c] 170
 have c0 := Blk.f B0 rfl
 go_enter Tryz.func177, Tryz.ntmps177
 go_wp2_with fail
 refine (vbA 2 15 r.l W.heap.size _ (Blk.new W _ _)).mono ?_
 rintro e w1 ⟨rfl, rfl⟩
 have k1 := kW.alloc (.cells #[.int .i64 r.l] 3)
 have B1 := B0.alloc (.cells #[.int .i64 r.l] 3)
 obtain ⟨V, hV⟩ : ∃ V, W.alloc (.cells #[.int .i64 r.l] 3) = V := ⟨_, rfl⟩
 rw [hV] at k1 B1 ⊢
 clear hW c0
 clear hV
 have c0 := Blk.f B1 rfl
 cases h0 : withB 2 15 r.l with
 | true =>
  go_wp2_with fail
  refine (vcd r 16 r.l _).mono ?_
  rintro e w2 ⟨rfl, hK2⟩
  have k2 := k1.trans hK2
  have B2 := B1.keep hK2
  clear c0
  have c0 := Blk.f B2 rfl
  cases h1 : hasB r 16 r.l with
  | true =>
   go_wp2_with fail
   refine (vdZ r _ hx).mono ?_
   rintro e w3 ⟨rfl, hK3⟩
   have k3 := k2.trans hK3
   have H := Lib.hid (show (withB 2 15 r.l && (hasB r 16 r.l && someB r)) = someB r by simp only [h0, h1, Bool.true_and])
   clear c0
   go_wp2_with fail
   go_ret
   exact ⟨by rw [H.out]; rfl, k3⟩
  | false =>
   have H := Lib.hid (show (withB 2 15 r.l && (hasB r 16 r.l && someB r)) = false by simp only [h0, h1, Bool.true_and, Bool.false_and])
   go_wp2_with fail
   go_ret
   exact ⟨by rw [H.out]; rfl, k2⟩
 | false =>
  have H := Lib.hid (show (withB 2 15 r.l && (hasB r 16 r.l && someB r)) = false by simp only [h0, Bool.false_and])
  go_wp2_with fail
  go_ret
  exact ⟨by rw [H.out]; rfl, k1⟩
end

end Go.Proofs.YtffckpkikdlbpaaGreatDoor
