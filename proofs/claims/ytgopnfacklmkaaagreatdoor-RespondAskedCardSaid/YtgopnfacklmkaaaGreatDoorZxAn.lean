/- Lemmas and contracts for the theorem of this claim: CfB, POrd, HeapL, QueL, TmA, TmB. -/
import Derived.Test.YtgopnfacklmkaaaGreatDoorZxAm
set_option linter.all false
set_option maxHeartbeats 16000000
namespace Go.Proofs.YtgopnfacklmkaaaGreatDoor
section
open Go.RowKit
def spC (n : Nat → ByteArray) : Array Value := #[.string (n 0), .int .i64 1, .func (.func 235) #[] #[], .string (n 1), .int .i64 0, .func (.func 236) #[] #[], .string (n 2), .int .i64 1, .func (.func 237) #[] #[], .string (n 3), .int .i64 0, .func (.func 238) #[] #[], .string (n 4), .int .i64 1, .func (.func 239) #[] #[], .string (n 5), .int .i64 0, .func (.func 240) #[] #[], .string (n 6), .int .i64 0, .func (.func 241) #[] #[]]
abbrev namesB : ByteArray := ⟨#[112, 101, 114, 105, 111, 100, 32, 106, 105, 116, 116, 101, 114, 32, 116, 105, 109, 101, 111, 117, 116, 32, 104, 111, 108, 100, 32, 103, 97, 114, 98, 97, 103, 101, 32, 113, 117, 105, 101, 116, 32, 115, 112, 114, 101, 97, 100]⟩
theorem words7 (w : World) : Calls Tryz.prog 242 #[.string namesB] w fun e w' => ∃ b c, ∃ s : Nat → ByteArray, e = .returned (.slice (some ⟨b, 0, none⟩) 7 c) ∧ (∀ k, k < 7 → w'.cell? ⟨b, k, none⟩ = some (.string (s k))) ∧ w.heap.size ≤ b ∧ Kp w w' := by
 refine (vfT namesB (by decide) w).mono ?_
 rintro e w' ⟨v, rfl, hO, K⟩
 have hlen : (parted 32 namesB.data.toList).length = 7 := by decide +kernel
 rcases hO.2 with ⟨_, h2⟩ | ⟨g, cap, cur, hv, hg, _⟩
 ·exact absurd h2 (by rw [hlen]; decide)
 ·subst hv
  have hR := Rd.of_own (by decide) viT hO
  rw [hlen]
  refine ⟨g, cap, fun k => if h : k < (parted 32 namesB.data.toList).length then strB ((parted 32 namesB.data.toList)[k]'h) else ⟨#[]⟩, rfl, fun k hk => ?_, hg, K⟩
  obtain ⟨b, off, e, hc⟩ := hR k (by rw [hlen]; exact hk)
  injection e with e
  injection e with e1 e2
  subst e1
  subst e2
  have := hc 0 _ rfl
  show w'.cell? ⟨g, k, none⟩ = some (.string (if h : k < (parted 32 namesB.data.toList).length then strB ((parted 32 namesB.data.toList)[k]'h) else ⟨#[]⟩))
  rw [dif_pos (by rw [hlen]; exact hk)]
  simpa using this
set_option maxRecDepth 100000 in
theorem vhi (w : World) : Calls Tryz.prog 168 #[] w fun e w' => ∃ g, ∃ n : Nat → ByteArray, e = .returned (.slice (some ⟨g, 0, none⟩) 7 7) ∧ Blk w' g 295 (spC n) ∧ w.heap.size ≤ g ∧ Kp w w' := by
 obtain ⟨g, hg⟩ : ∃ g, w.heap.size = g := ⟨_, rfl⟩
 obtain ⟨W0, hW0, K0, B0⟩ := Blk.al1 hg (spC (fun _ => ⟨#[]⟩)) 295
 have HW0 := hW0
 unfold spC at HW0
 go_enter Tryz.func168, Tryz.ntmps168
 go_wp2_with fail
 refine (words7 _).mono ?_
 rintro e w1 ⟨b, c, s, rfl, hs, hb, K1⟩
 have hgb : g < b := by have := B0.lt; omega
 have K := K0.trans K1
 have hCW : ∀ k, k < 7 → w1.cell? ⟨b, k, none⟩ = some (.string (s k)) := hs
 have BG := B0.keep K1
 clear hs hW0 HW0 K0 B0 K1 hb
 obtain ⟨n, hn⟩ : ∃ n : Nat → ByteArray, (fun _ => ⟨#[]⟩) = n := ⟨_, rfl⟩
 rw [hn] at BG
 clear hn
 have hbg : ¬ b = g := by omega
 have hgb2 : ¬ g = b := by omega
 go_wp2_with fail
 refine wp_loop_rounds 8 ?_
 have HC := Lib.hid hCW
 have HB := Lib.hid BG
 have sk := hCW 0 (by omega)
 have fk : w1.frozen? ⟨g, 0, none⟩ = false := BG.frozen 0
 have ck : w1.cell? ⟨g, 0, none⟩ = some (.string (n 0)) := BG.cell 0
 clear hCW BG
 rw [rounds_succ]
 go_wp2_with fail
 obtain ⟨X1, hW, K1, B'', C1⟩ : ∃ W, w1.setCell ⟨g, 0, none⟩ (.string (s 0)) = W ∧ Kp w W ∧ Blk W g 295 (spC (fun j => if j = 0 then s 0 else n j)) ∧ ∀ k, k < 7 → W.cell? ⟨b, k, none⟩ = some (.string (s k)) :=
  ⟨_, rfl, K.setCell (by show w.heap.size ≤ g; omega) _, HB.out.set_ 0 (.string (s 0)), fun k hk => by rw [World.cell?_setCell_other _ _ _ _ (by intro e; injection e with e; exact hgb2 e)]; exact HC.out k hk⟩
 rw [hW]
 clear hW HC HB sk fk ck K
 obtain ⟨m1, hn⟩ : ∃ n2 : Nat → ByteArray, (fun j => if j = 0 then s 0 else n j) = n2 := ⟨_, rfl⟩
 rw [hn] at B''
 have B1 := B''
 clear hn B''
 have HC := Lib.hid C1
 have HB := Lib.hid B1
 have sk := C1 1 (by omega)
 have fk : X1.frozen? ⟨g, 3, none⟩ = false := B1.frozen 3
 have ck : X1.cell? ⟨g, 3, none⟩ = some (.string (m1 1)) := B1.cell 3
 clear C1 B1
 rw [rounds_succ]
 go_wp2_with fail
 obtain ⟨X2, hW, K2, B'', C2⟩ : ∃ W, X1.setCell ⟨g, 3, none⟩ (.string (s 1)) = W ∧ Kp w W ∧ Blk W g 295 (spC (fun j => if j = 1 then s 1 else m1 j)) ∧ ∀ k, k < 7 → W.cell? ⟨b, k, none⟩ = some (.string (s k)) :=
  ⟨_, rfl, K1.setCell (by show w.heap.size ≤ g; omega) _, HB.out.set_ 3 (.string (s 1)), fun k hk => by rw [World.cell?_setCell_other _ _ _ _ (by intro e; injection e with e; exact hgb2 e)]; exact HC.out k hk⟩
 rw [hW]
 clear hW HC HB sk fk ck K1
 obtain ⟨m2, hn⟩ : ∃ n2 : Nat → ByteArray, (fun j => if j = 1 then s 1 else m1 j) = n2 := ⟨_, rfl⟩
 rw [hn] at B''
 have B2 := B''
 clear hn B''
 have HC := Lib.hid C2
 have HB := Lib.hid B2
 have sk := C2 2 (by omega)
 have fk : X2.frozen? ⟨g, 6, none⟩ = false := B2.frozen 6
 have ck : X2.cell? ⟨g, 6, none⟩ = some (.string (m2 2)) := B2.cell 6
 clear C2 B2
 rw [rounds_succ]
 go_wp2_with fail
 obtain ⟨X3, hW, K3, B'', C3⟩ : ∃ W, X2.setCell ⟨g, 6, none⟩ (.string (s 2)) = W ∧ Kp w W ∧ Blk W g 295 (spC (fun j => if j = 2 then s 2 else m2 j)) ∧ ∀ k, k < 7 → W.cell? ⟨b, k, none⟩ = some (.string (s k)) :=
  ⟨_, rfl, K2.setCell (by show w.heap.size ≤ g; omega) _, HB.out.set_ 6 (.string (s 2)), fun k hk => by rw [World.cell?_setCell_other _ _ _ _ (by intro e; injection e with e; exact hgb2 e)]; exact HC.out k hk⟩
 rw [hW]
 clear hW HC HB sk fk ck K2
 obtain ⟨m3, hn⟩ : ∃ n2 : Nat → ByteArray, (fun j => if j = 2 then s 2 else m2 j) = n2 := ⟨_, rfl⟩
 rw [hn] at B''
 have B3 := B''
 clear hn B''
 have HC := Lib.hid C3
 have HB := Lib.hid B3
 have sk := C3 3 (by omega)
 have fk : X3.frozen? ⟨g, 9, none⟩ = false := B3.frozen 9
 have ck : X3.cell? ⟨g, 9, none⟩ = some (.string (m3 3)) := B3.cell 9
 clear C3 B3
 rw [rounds_succ]
 go_wp2_with fail
 obtain ⟨X4, hW, K4, B'', C4⟩ : ∃ W, X3.setCell ⟨g, 9, none⟩ (.string (s 3)) = W ∧ Kp w W ∧ Blk W g 295 (spC (fun j => if j = 3 then s 3 else m3 j)) ∧ ∀ k, k < 7 → W.cell? ⟨b, k, none⟩ = some (.string (s k)) :=
  ⟨_, rfl, K3.setCell (by show w.heap.size ≤ g; omega) _, HB.out.set_ 9 (.string (s 3)), fun k hk => by rw [World.cell?_setCell_other _ _ _ _ (by intro e; injection e with e; exact hgb2 e)]; exact HC.out k hk⟩
 rw [hW]
 clear hW HC HB sk fk ck K3
 obtain ⟨m4, hn⟩ : ∃ n2 : Nat → ByteArray, (fun j => if j = 3 then s 3 else m3 j) = n2 := ⟨_, rfl⟩
 rw [hn] at B''
 have B4 := B''
 clear hn B''
 have HC := Lib.hid C4
 have HB := Lib.hid B4
 have sk := C4 4 (by omega)
 have fk : X4.frozen? ⟨g, 12, none⟩ = false := B4.frozen 12
 have ck : X4.cell? ⟨g, 12, none⟩ = some (.string (m4 4)) := B4.cell 12
 clear C4 B4
 rw [rounds_succ]
 go_wp2_with fail
 obtain ⟨X5, hW, K5, B'', C5⟩ : ∃ W, X4.setCell ⟨g, 12, none⟩ (.string (s 4)) = W ∧ Kp w W ∧ Blk W g 295 (spC (fun j => if j = 4 then s 4 else m4 j)) ∧ ∀ k, k < 7 → W.cell? ⟨b, k, none⟩ = some (.string (s k)) :=
  ⟨_, rfl, K4.setCell (by show w.heap.size ≤ g; omega) _, HB.out.set_ 12 (.string (s 4)), fun k hk => by rw [World.cell?_setCell_other _ _ _ _ (by intro e; injection e with e; exact hgb2 e)]; exact HC.out k hk⟩
 rw [hW]
 clear hW HC HB sk fk ck K4
 obtain ⟨m5, hn⟩ : ∃ n2 : Nat → ByteArray, (fun j => if j = 4 then s 4 else m4 j) = n2 := ⟨_, rfl⟩
 rw [hn] at B''
 have B5 := B''
 clear hn B''
 have HC := Lib.hid C5
 have HB := Lib.hid B5
 have sk := C5 5 (by omega)
 have fk : X5.frozen? ⟨g, 15, none⟩ = false := B5.frozen 15
 have ck : X5.cell? ⟨g, 15, none⟩ = some (.string (m5 5)) := B5.cell 15
 clear C5 B5
 rw [rounds_succ]
 go_wp2_with fail
 obtain ⟨X6, hW, K6, B'', C6⟩ : ∃ W, X5.setCell ⟨g, 15, none⟩ (.string (s 5)) = W ∧ Kp w W ∧ Blk W g 295 (spC (fun j => if j = 5 then s 5 else m5 j)) ∧ ∀ k, k < 7 → W.cell? ⟨b, k, none⟩ = some (.string (s k)) :=
  ⟨_, rfl, K5.setCell (by show w.heap.size ≤ g; omega) _, HB.out.set_ 15 (.string (s 5)), fun k hk => by rw [World.cell?_setCell_other _ _ _ _ (by intro e; injection e with e; exact hgb2 e)]; exact HC.out k hk⟩
 rw [hW]
 clear hW HC HB sk fk ck K5
 obtain ⟨m6, hn⟩ : ∃ n2 : Nat → ByteArray, (fun j => if j = 5 then s 5 else m5 j) = n2 := ⟨_, rfl⟩
 rw [hn] at B''
 have B6 := B''
 clear hn B''
 have HC := Lib.hid C6
 have HB := Lib.hid B6
 have sk := C6 6 (by omega)
 have fk : X6.frozen? ⟨g, 18, none⟩ = false := B6.frozen 18
 have ck : X6.cell? ⟨g, 18, none⟩ = some (.string (m6 6)) := B6.cell 18
 clear C6 B6
 rw [rounds_succ]
 go_wp2_with fail
 obtain ⟨X7, hW, K7, B'', C7⟩ : ∃ W, X6.setCell ⟨g, 18, none⟩ (.string (s 6)) = W ∧ Kp w W ∧ Blk W g 295 (spC (fun j => if j = 6 then s 6 else m6 j)) ∧ ∀ k, k < 7 → W.cell? ⟨b, k, none⟩ = some (.string (s k)) :=
  ⟨_, rfl, K6.setCell (by show w.heap.size ≤ g; omega) _, HB.out.set_ 18 (.string (s 6)), fun k hk => by rw [World.cell?_setCell_other _ _ _ _ (by intro e; injection e with e; exact hgb2 e)]; exact HC.out k hk⟩
 rw [hW]
 clear hW HC HB sk fk ck K6
 obtain ⟨m7, hn⟩ : ∃ n2 : Nat → ByteArray, (fun j => if j = 6 then s 6 else m6 j) = n2 := ⟨_, rfl⟩
 rw [hn] at B''
 have B7 := B''
 clear hn B''
 rw [rounds_succ]
 go_wp2_with fail
 go_ret
 exact ⟨g, m7, rfl, B7, by omega, K7⟩
def cmpI (x y : Int) : Int := if x < y then -1 else if y < x then 1 else 0
def ordI (a l b k : Int) : Int := if cmpI a b = 0 then cmpI l k else cmpI a b
theorem vdG (x : Int) (w : World) : Calls Tryz.prog 275 #[.int .u32 x] w fun e w' => e = .returned (.bool false) ∧ w = w' := by
 go_enter Tryz.func275, Tryz.ntmps275
 go_wp2_with fail
 go_ret
 exact ⟨rfl, rfl⟩
theorem vdH (x : Int) (w : World) : Calls Tryz.prog 276 #[.int .i64 x] w fun e w' => e = .returned (.bool false) ∧ w = w' := by
 go_enter Tryz.func276, Tryz.ntmps276
 go_wp2_with fail
 go_ret
 exact ⟨rfl, rfl⟩
theorem vfj (x y : Int) (w : World) : Calls Tryz.prog 209 #[.int .u32 x, .int .u32 y] w fun e w' => e = .returned (.int .i64 (cmpI x y)) ∧ w = w' := by
 obtain ⟨r, hr⟩ : ∃ r, cmpI x y = r := ⟨_, rfl⟩
 rw [hr]
 have Hr := Lib.hid hr; clear hr
 by_cases h1 : x < y
 ·have d1 : decide (x < y) = true := by simpa using h1
  have e : r = -1 := by rw [← Hr.out]; simp [cmpI, h1]
  subst e
  clear h1 Hr
  go_enter Tryz.func209, Tryz.ntmps209
  go_wp2_with (go_at_call 275; refine (vdG _ _).mono ?_; rintro e w' ⟨rfl, rfl⟩)
  go_ret
  exact ⟨rfl, rfl⟩
 ·have d1 : decide (x < y) = false := by simpa using h1
  by_cases h2 : y < x
  ·have d2 : decide (y < x) = true := by simpa using h2
   have e : r = 1 := by rw [← Hr.out]; simp [cmpI, h1, h2]
   subst e
   clear h1 h2 Hr
   go_enter Tryz.func209, Tryz.ntmps209
   go_wp2_with (go_at_call 275; refine (vdG _ _).mono ?_; rintro e w' ⟨rfl, rfl⟩)
   go_ret
   exact ⟨rfl, rfl⟩
  ·have d2 : decide (y < x) = false := by simpa using h2
   have e : r = 0 := by rw [← Hr.out]; simp [cmpI, h1, h2]
   subst e
   clear h1 h2 Hr
   go_enter Tryz.func209, Tryz.ntmps209
   go_wp2_with (go_at_call 275; refine (vdG _ _).mono ?_; rintro e w' ⟨rfl, rfl⟩)
   go_ret
   exact ⟨rfl, rfl⟩
theorem vfk (x y : Int) (w : World) : Calls Tryz.prog 210 #[.int .i64 x, .int .i64 y] w fun e w' => e = .returned (.int .i64 (cmpI x y)) ∧ w = w' := by
 obtain ⟨r, hr⟩ : ∃ r, cmpI x y = r := ⟨_, rfl⟩
 rw [hr]
 have Hr := Lib.hid hr; clear hr
 by_cases h1 : x < y
 ·have d1 : decide (x < y) = true := by simpa using h1
  have e : r = -1 := by rw [← Hr.out]; simp [cmpI, h1]
  subst e
  clear h1 Hr
  go_enter Tryz.func210, Tryz.ntmps210
  go_wp2_with (go_at_call 276; refine (vdH _ _).mono ?_; rintro e w' ⟨rfl, rfl⟩)
  go_ret
  exact ⟨rfl, rfl⟩
 ·have d1 : decide (x < y) = false := by simpa using h1
  by_cases h2 : y < x
  ·have d2 : decide (y < x) = true := by simpa using h2
   have e : r = 1 := by rw [← Hr.out]; simp [cmpI, h1, h2]
   subst e
   clear h1 h2 Hr
   go_enter Tryz.func210, Tryz.ntmps210
   go_wp2_with (go_at_call 276; refine (vdH _ _).mono ?_; rintro e w' ⟨rfl, rfl⟩)
   go_ret
   exact ⟨rfl, rfl⟩
  ·have d2 : decide (y < x) = false := by simpa using h2
   have e : r = 0 := by rw [← Hr.out]; simp [cmpI, h1, h2]
   subst e
   clear h1 h2 Hr
   go_enter Tryz.func210, Tryz.ntmps210
   go_wp2_with (go_at_call 276; refine (vdH _ _).mono ?_; rintro e w' ⟨rfl, rfl⟩)
   go_ret
   exact ⟨rfl, rfl⟩
set_option maxRecDepth 100000 in
theorem vhj (x y : Int) (g : Nat) (w : World) (hB : Blk w g 3 #[.int .i64 x, .int .i64 y]) : Calls Tryz.prog 208 #[.slice (some ⟨g, 0, none⟩) 2 2] w fun e w' => e = .returned (.int .i64 (if x = 0 then y else x)) ∧ w = w' := by
 obtain ⟨c0, c1⟩ := Blk.v2 hB (.int .i64 x) (.int .i64 y) rfl
 clear hB
 obtain ⟨r, hr⟩ : ∃ r, (if x = 0 then y else x) = r := ⟨_, rfl⟩
 rw [hr]
 have Hr := Lib.hid hr; clear hr
 go_enter Tryz.func208, Tryz.ntmps208
 go_wp2_with fail
 go_loop [8] (fun i => ∃ k : Nat, k ≤ 2 ∧ i = .int .i64 k ∧ Hid (0 < k → x = 0) ∧ Hid (1 < k → y = 0)) (fun i => 2 - (intOf i).toNat)
 case atStart => exact ⟨0, by omega, rfl, fun h => absurd h (by omega), fun h => absurd h (by omega)⟩
 case round =>
  obtain ⟨k, hk, rfl, h0, h1⟩ := hrel
  have hc3 : k = 0 ∨ k = 1 ∨ k = 2 := by omega
  rcases hc3 with rfl | rfl | rfl
  ·by_cases hx : x = 0
   ·subst hx
    go_wp2_with fail
    go_round
    case rel => exact ⟨1, by omega, by go_num, fun _ => by trivial, fun h => absurd h (by omega)⟩
    case measure => simp [intOf]
   ·have hx1 : (x != 0) = true := by simpa using hx
    have e : r = x := by rw [← Hr.out, if_neg hx]
    subst e
    clear hx Hr
    go_wp2_with fail
    go_ret
    exact ⟨rfl, rfl⟩
  ·have hx : x = 0 := h0.out (by omega)
   subst hx
   have e : r = y := by rw [← Hr.out, if_pos rfl]
   subst e
   clear Hr h0 h1
   by_cases hy : r = 0
   ·subst hy
    go_wp2_with fail
    go_round
    case rel => exact ⟨2, by omega, by go_num, fun _ => by trivial, fun _ => by trivial⟩
    case measure => simp [intOf]
   ·have hy1 : (r != 0) = true := by simpa using hy
    clear hy
    go_wp2_with fail
    go_ret
    exact ⟨rfl, rfl⟩
  ·have hx : x = 0 := h0.out (by omega)
   have hy : y = 0 := h1.out (by omega)
   subst hx hy
   have e : r = 0 := by rw [← Hr.out, if_pos rfl]
   subst e
   clear Hr h0 h1
   go_wp2_with fail
   go_ret
   exact ⟨rfl, rfl⟩
set_option maxRecDepth 100000 in
theorem vhk (a l b k : Int) (w : World) : Calls Tryz.prog 152 #[.agg #[.int .u32 a, .int .i64 l], .agg #[.int .u32 b, .int .i64 k]] w fun e w' => e = .returned (.int .i64 (ordI a l b k)) ∧ Kp w w' := by
 obtain ⟨W, hW, kW, B0, B1⟩ := Blk.al2 (w := w) rfl #[.int .u32 a, .int .i64 l] 39 #[.int .u32 b, .int .i64 k] 39
 obtain ⟨x, hx⟩ : ∃ x, cmpI a b = x := ⟨_, rfl⟩
 obtain ⟨y, hy⟩ : ∃ y, cmpI l k = y := ⟨_, rfl⟩
 have Hx := Lib.hid hx
 have Hy := Lib.hid hy
 have Hr : Hid (ordI a l b k = if x = 0 then y else x) := by rw [← hx, ← hy]; exact Lib.hid rfl
 clear hx hy
 go_enter Tryz.func152, Tryz.ntmps152
 go_wp2_with fail
 refine vgw 10 (by kernel_rfl) (by kernel_rfl) (fun V hV => ?_)
 have KV : Kp W V := by rw [hV]; exact (Kp.refl _).drew
 obtain ⟨p0, p1⟩ := Blk.v2 (B0.keep KV) (.int .u32 a) (.int .i64 l) rfl
 obtain ⟨q0, q1⟩ := Blk.v2 (B1.keep KV) (.int .u32 b) (.int .i64 k) rfl
 clear hV hW
 simp only [List.take_succ_cons, List.take_zero, List.drop_succ_cons, List.drop_zero]
 still_step
 still_step
 still_step
 still_step
 still_call (by refine (vfj a b _).mono ?_; rintro e w' ⟨rfl, rfl⟩; rw [Hx.out]; exact ⟨rfl, rfl⟩)
 still_step
 still_step
 still_step
 still_step
 still_call (by refine (vfk l k _).mono ?_; rintro e w' ⟨rfl, rfl⟩; rw [Hy.out]; exact ⟨rfl, rfl⟩)
 refine wpStill_nil ?_
 clear p0 p1 q0 q1
 go_wp2_with fail
 refine (vhj x y V.heap.size _ (Blk.new V _ _)).mono ?_
 rintro e w' ⟨rfl, rfl⟩
 rw [← Hr.out]
 go_wp2_with fail
 go_ret
 exact ⟨rfl, (kW.trans KV).alloc _⟩
set_option maxRecDepth 100000 in
theorem vkT (w : World) (a l b k : Int) : (binOp .eql 39 (.agg #[.int .u32 a, .int .i64 l]) (.agg #[.int .u32 b, .int .i64 k])).run Tryz.prog w = .ok (.bool (a == b && l == k)) w := by
 rw [run_eql_struct, run_equalIn_agg w 9999 _ _ _ Tryz.underlying39 (by kernel_rfl)]
 simp [Op.eqFields, part, go_sem, Tryz.underlying3, Tryz.underlying37]
 by_cases h1 : a = b <;> by_cases h2 : l = k <;> simp [h1, h2]
theorem vhl (x : Int) : cmpI x x = 0 := by unfold cmpI; rw [if_neg (by omega), if_neg (by omega)]
end

section
def parH (k : Nat) : Nat := (k - 1) / 2
def swH {α : Type} (f : Nat → α) (i j : Nat) : Nat → α := fun k => if k = i then f j else if k = j then f i else f k
theorem swH_l {α : Type} (f : Nat → α) (i j : Nat) : swH f i j i = f j := by unfold swH; rw [if_pos rfl]
theorem swH_r {α : Type} (f : Nat → α) (i j : Nat) : swH f i j j = f i := by
 unfold swH
 by_cases h : j = i
 ·rw [if_pos h, h]
 ·rw [if_neg h, if_pos rfl]
theorem swH_o {α : Type} (f : Nat → α) {i j k : Nat} (hi : k ≠ i) (hj : k ≠ j) : swH f i j k = f k := by unfold swH; rw [if_neg hi, if_neg hj]
theorem vav {k : Nat} (h : 0 < k) : parH k < k := by unfold parH; omega
theorem vfU {i j : Nat} (h : j = 2 * i + 1 ∨ j = 2 * i + 2) : parH j = i ∧ 0 < j := by unfold parH; omega
theorem vcn {k i : Nat} (hk : 0 < k) (h : parH k = i) : k = 2 * i + 1 ∨ k = 2 * i + 2 := by unfold parH at h; omega
structure OrdH {α : Type} (lt : α → α → Bool) : Prop where
 asym : ∀ a b, lt a b = true → lt b a = false
 trans : ∀ a b c, lt b a = false → lt c b = false → lt c a = false
variable {α : Type} {lt : α → α → Bool}
def Heap (lt : α → α → Bool) (f : Nat → α) (n : Nat) : Prop := ∀ k, 0 < k → k < n → lt (f k) (f (parH k)) = false
structure HeapBut (lt : α → α → Bool) (f : Nat → α) (n b : Nat) : Prop where
 rel : ∀ k, 0 < k → k < n → k ≠ b → parH k ≠ b → lt (f k) (f (parH k)) = false
 grand : ∀ k, 0 < k → k < n → parH k = b → 0 < b → lt (f k) (f (parH b)) = false
structure UpH (lt : α → α → Bool) (f : Nat → α) (n j : Nat) : Prop where
 but : HeapBut lt f n j
 below : ∀ k, 0 < k → k < n → parH k = j → lt (f k) (f j) = false
theorem UpH.done {f : Nat → α} {n j : Nat} (h : UpH lt f n j) (hj : j = 0 ∨ lt (f j) (f (parH j)) = false) : Heap lt f n := by
 intro k h0 hn
 by_cases h1 : k = j
 ·subst h1
  rcases hj with hj | hj
  ·omega
  ·exact hj
 ·by_cases h2 : parH k = j
  ·rw [h2]; exact h.below k h0 hn h2
  ·exact h.but.rel k h0 hn h1 h2
theorem UpH.step (o : OrdH lt) {f : Nat → α} {n j : Nat} (h : UpH lt f n j) (h0 : 0 < j) (hn : j < n) (hl : lt (f j) (f (parH j)) = true) : UpH lt (swH f (parH j) j) n (parH j) := by
 have hp := vav h0
 refine ⟨⟨?_, ?_⟩, ?_⟩
 ·intro k k0 kn kne kp
  have hkj : k ≠ j := fun e => kp (by rw [e])
  rw [swH_o f kne hkj]
  by_cases hpj : parH k = j
  ·rw [hpj, swH_r]
   exact h.but.grand k k0 kn hpj h0
  ·rw [swH_o f kp hpj]
   exact h.but.rel k k0 kn hkj hpj
 ·intro k k0 kn kp p0
  have hpp := vav p0
  rw [swH_o (k := parH (parH j)) f (by omega) (by omega)]
  have hup : lt (f (parH j)) (f (parH (parH j))) = false := h.but.rel (parH j) p0 (by omega) (by omega) (by omega)
  by_cases hkj : k = j
  ·subst hkj
   rw [swH_r]
   exact hup
  ·have hkp : k ≠ parH j := by have := vav k0; omega
   rw [swH_o f hkp hkj]
   refine o.trans _ (f (parH j)) _ hup ?_
   have := h.but.rel k k0 kn hkj (by omega)
   rw [kp] at this
   exact this
 ·intro k k0 kn kp
  rw [swH_l]
  by_cases hkj : k = j
  ·subst hkj
   rw [swH_r]
   exact o.asym _ _ hl
  ·have hkp : k ≠ parH j := by have := vav k0; omega
   rw [swH_o f hkp hkj]
   have h3 := h.but.rel k k0 kn hkj (by omega)
   rw [kp] at h3
   exact o.trans _ (f (parH j)) _ (o.asym _ _ hl) h3
structure DownH (lt : α → α → Bool) (f : Nat → α) (n i0 i : Nat) : Prop where
 but : HeapBut lt f n i
 above : i ≠ i0 → 0 < i → lt (f i) (f (parH i)) = false
theorem DownH.stay {f : Nat → α} {n i0 i : Nat} (h : DownH lt f n i0 i) (hc : ∀ k, 0 < k → k < n → parH k = i → lt (f k) (f i) = false) : UpH lt f n i ∧ (i ≠ i0 → Heap lt f n) :=
 ⟨⟨h.but, hc⟩, fun hne => UpH.done ⟨h.but, hc⟩ (by
  by_cases h0 : i = 0
  ·exact .inl h0
  ·exact .inr (h.above hne (by omega)))⟩
theorem DownH.step (o : OrdH lt) {f : Nat → α} {n i0 i j : Nat} (h : DownH lt f n i0 i) (hj : j = 2 * i + 1 ∨ j = 2 * i + 2) (hn : j < n) (hl : lt (f j) (f i) = true) (hs : ∀ k, 0 < k → k < n → parH k = i → k ≠ j → lt (f k) (f j) = false) (hi0 : i0 ≤ i) : DownH lt (swH f i j) n i0 j ∧ i0 < j := by
 obtain ⟨hp, j0⟩ := vfU hj
 have hij : i < j := by omega
 refine ⟨⟨⟨?_, ?_⟩, ?_⟩, by omega⟩
 ·intro k k0 kn kne kp
  by_cases hki : k = i
  ·subst hki
   have := vav k0
   rw [swH_l, swH_o (k := parH k) f (by omega) (by omega)]
   exact h.but.grand j j0 hn hp k0
  ·rw [swH_o f hki kne]
   by_cases hpi : parH k = i
   ·rw [hpi, swH_l]
    exact hs k k0 kn hpi kne
   ·rw [swH_o f hpi kp]
    exact h.but.rel k k0 kn hki hpi
 ·intro k k0 kn kp _
  have := vav k0
  rw [hp, swH_l, swH_o (k := k) f (by omega) (by omega)]
  have h3 := h.but.rel k k0 kn (by omega) (by omega)
  rw [kp] at h3
  exact h3
 ·intro _ _
  rw [swH_r, hp, swH_l]
  exact o.asym _ _ hl
theorem Heap.less {f : Nat → α} {n m : Nat} (h : Heap lt f n) (hm : m ≤ n) : Heap lt f m := fun k h0 hk => h k h0 (by omega)
theorem Heap.push {f : Nat → α} {n : Nat} (h : Heap lt f n) : UpH lt f (n + 1) n :=
 ⟨⟨fun k h0 hn hk hp => h k h0 (by omega), fun k h0 hn hp hb => by have := vav h0; omega⟩, fun k h0 hn hp => by have := vav h0; omega⟩
theorem Heap.put (o : OrdH lt) {f g : Nat → α} {n i : Nat} (h : Heap lt f n) (hg : ∀ k, k < n → k ≠ i → g k = f k) (hi : i < n) : DownH lt g n i i :=
 ⟨⟨fun k h0 hn hk hp => by
   have := vav h0
   rw [hg k hn hk, hg (parH k) (by omega) hp]
   exact h k h0 hn,
  fun k h0 hn hp hb => by
   have h1 := vav h0
   have h2 := vav hb
   rw [hg k hn (by omega), hg (parH i) (by omega) (by omega)]
   have e := h k h0 hn
   rw [hp] at e
   exact o.trans _ (f i) _ (h i hb hi) e⟩,
  fun hne => absurd rfl hne⟩
end

section
structure Tw where
 k : Int
 p : PI
 d : Int
def ordT (r s : Tw) : Int := if cmpI r.d s.d ≠ 0 then cmpI r.d s.d else if cmpI r.k s.k ≠ 0 then cmpI r.k s.k else ordI r.p.a r.p.l s.p.a s.p.l
def ltT (r s : Tw) : Bool := decide (ordT r s < 0)
theorem vco {x y : Int} : cmpI x y < 0 ↔ x < y := by unfold cmpI; split <;> (try split) <;> omega
theorem vay {x y : Int} : cmpI x y = 0 ↔ x = y := by unfold cmpI; split <;> (try split) <;> omega
theorem vfl {a l b k : Int} : ordI a l b k < 0 ↔ a < b ∨ (a = b ∧ l < k) := by
 unfold ordI
 split
 ·rename_i h
  rw [vay] at h
  rw [vco]
  omega
 ·rename_i h
  rw [vay] at h
  rw [vco]
  omega
theorem vhm {r s : Tw} : ltT r s = true ↔ r.d < s.d ∨ (r.d = s.d ∧ (r.k < s.k ∨ (r.k = s.k ∧ ((r.p.a : Int) < s.p.a ∨ ((r.p.a : Int) = s.p.a ∧ r.p.l < s.p.l))))) := by
 unfold ltT
 rw [decide_eq_true_eq]
 unfold ordT
 by_cases h1 : r.d = s.d
 ·rw [if_neg (by rw [Decidable.not_not, vay]; exact h1)]
  by_cases h2 : r.k = s.k
  ·rw [if_neg (by rw [Decidable.not_not, vay]; exact h2), vfl]
   omega
  ·rw [if_pos (by rw [Ne, vay]; exact h2), vco]
   omega
 ·rw [if_pos (by rw [Ne, vay]; exact h1), vco]
  omega
theorem vhn {r s : Tw} : ltT r s = false ↔ ¬ (r.d < s.d ∨ (r.d = s.d ∧ (r.k < s.k ∨ (r.k = s.k ∧ ((r.p.a : Int) < s.p.a ∨ ((r.p.a : Int) = s.p.a ∧ r.p.l < s.p.l)))))) := by
 rw [← vhm]
 cases ltT r s <;> simp
theorem vbb : OrdH ltT := by
 constructor
 ·intro a b h
  rw [vhm] at h
  rw [vhn]
  omega
 ·intro a b c h1 h2
  rw [vhn] at h1 h2 ⊢
  omega
def swapL {α : Type} (l : List α) (i j : Nat) (hi : i < l.length) (hj : j < l.length) : List α := (l.set i l[j]).set j l[i]
theorem vaz {α : Type} (l : List α) (i j : Nat) (hi : i < l.length) (hj : j < l.length) : (swapL l i j hi hj).length = l.length := by unfold swapL; simp
theorem vaP {α : Type} (l : List α) (i j : Nat) (hi : i < l.length) (hj : j < l.length) : (swapL l i j hi hj).Perm l := List.set_set_perm hi hj
theorem viV {α : Type} (l : List α) (d : α) (i j : Nat) (hi : i < l.length) (hj : j < l.length) : (fun k => (swapL l i j hi hj).getD k d) = swH (fun k => l.getD k d) i j := by
 funext k
 unfold swapL swH
 simp only [List.getD_eq_getElem?_getD, List.getElem?_set]
 by_cases h1 : k = i
 ·subst h1
  rw [if_pos rfl]
  by_cases h2 : j = k
  ·subst h2
   simp [hi]
  ·rw [if_neg h2]
   simp [hi, hj]
 ·rw [if_neg h1]
  by_cases h2 : k = j
  ·subst h2
   simp [hi, hj]
  ·rw [if_neg h2, if_neg (fun e => h2 e.symm), if_neg (fun e => h1 e.symm)]
end

section
open Go.RowKit
theorem vdI (x : Int) (w : World) : Calls Tryz.prog 359 #[.int .i64 x] w fun e w' => e = .returned (.bool false) ∧ w = w' := by
 go_enter Tryz.func359, Tryz.ntmps359
 go_wp2_with fail
 go_ret
 exact ⟨rfl, rfl⟩
theorem viW (x y : Int) (w : World) : Calls Tryz.prog 357 #[.int .i64 x, .int .i64 y] w fun e w' => e = .returned (.int .i64 (cmpI x y)) ∧ w = w' := by
 obtain ⟨r, hr⟩ : ∃ r, cmpI x y = r := ⟨_, rfl⟩
 rw [hr]
 have Hr := Lib.hid hr; clear hr
 by_cases h1 : x < y
 ·have d1 : decide (x < y) = true := by simpa using h1
  have e : r = -1 := by rw [← Hr.out]; simp [cmpI, h1]
  subst e
  clear h1 Hr
  go_enter Tryz.func357, Tryz.ntmps357
  go_wp2_with (go_at_call 359; refine (vdI _ _).mono ?_; rintro e w' ⟨rfl, rfl⟩)
  go_ret
  exact ⟨rfl, rfl⟩
 ·have d1 : decide (x < y) = false := by simpa using h1
  by_cases h2 : y < x
  ·have d2 : decide (y < x) = true := by simpa using h2
   have e : r = 1 := by rw [← Hr.out]; simp [cmpI, h1, h2]
   subst e
   clear h1 h2 Hr
   go_enter Tryz.func357, Tryz.ntmps357
   go_wp2_with (go_at_call 359; refine (vdI _ _).mono ?_; rintro e w' ⟨rfl, rfl⟩)
   go_ret
   exact ⟨rfl, rfl⟩
  ·have d2 : decide (y < x) = false := by simpa using h2
   have e : r = 0 := by rw [← Hr.out]; simp [cmpI, h1, h2]
   subst e
   clear h1 h2 Hr
   go_enter Tryz.func357, Tryz.ntmps357
   go_wp2_with (go_at_call 359; refine (vdI _ _).mono ?_; rintro e w' ⟨rfl, rfl⟩)
   go_ret
   exact ⟨rfl, rfl⟩
theorem vdJ (x : Int) (w : World) : Calls Tryz.prog 360 #[.int .i64 x] w fun e w' => e = .returned (.bool false) ∧ w = w' := by
 go_enter Tryz.func360, Tryz.ntmps360
 go_wp2_with fail
 go_ret
 exact ⟨rfl, rfl⟩
theorem viX (x y : Int) (w : World) : Calls Tryz.prog 358 #[.int .i64 x, .int .i64 y] w fun e w' => e = .returned (.int .i64 (cmpI x y)) ∧ w = w' := by
 obtain ⟨r, hr⟩ : ∃ r, cmpI x y = r := ⟨_, rfl⟩
 rw [hr]
 have Hr := Lib.hid hr; clear hr
 by_cases h1 : x < y
 ·have d1 : decide (x < y) = true := by simpa using h1
  have e : r = -1 := by rw [← Hr.out]; simp [cmpI, h1]
  subst e
  clear h1 Hr
  go_enter Tryz.func358, Tryz.ntmps358
  go_wp2_with (go_at_call 360; refine (vdJ _ _).mono ?_; rintro e w' ⟨rfl, rfl⟩)
  go_ret
  exact ⟨rfl, rfl⟩
 ·have d1 : decide (x < y) = false := by simpa using h1
  by_cases h2 : y < x
  ·have d2 : decide (y < x) = true := by simpa using h2
   have e : r = 1 := by rw [← Hr.out]; simp [cmpI, h1, h2]
   subst e
   clear h1 h2 Hr
   go_enter Tryz.func358, Tryz.ntmps358
   go_wp2_with (go_at_call 360; refine (vdJ _ _).mono ?_; rintro e w' ⟨rfl, rfl⟩)
   go_ret
   exact ⟨rfl, rfl⟩
  ·have d2 : decide (y < x) = false := by simpa using h2
   have e : r = 0 := by rw [← Hr.out]; simp [cmpI, h1, h2]
   subst e
   clear h1 h2 Hr
   go_enter Tryz.func358, Tryz.ntmps358
   go_wp2_with (go_at_call 360; refine (vdJ _ _).mono ?_; rintro e w' ⟨rfl, rfl⟩)
   go_ret
   exact ⟨rfl, rfl⟩
def or3 (x y z : Int) : Int := if x ≠ 0 then x else if y ≠ 0 then y else z
set_option maxRecDepth 100000 in
theorem viY (x y z : Int) (g : Nat) (w : World) (hB : Blk w g 3 #[.int .i64 x, .int .i64 y, .int .i64 z]) : Calls Tryz.prog 208 #[.slice (some ⟨g, 0, none⟩) 3 3] w fun e w' => e = .returned (.int .i64 (or3 x y z)) ∧ w = w' := by
 obtain ⟨c0, c1, c2⟩ := Blk.v3 hB (.int .i64 x) (.int .i64 y) (.int .i64 z) rfl
 clear hB
 obtain ⟨r, hr⟩ : ∃ r, or3 x y z = r := ⟨_, rfl⟩
 rw [hr]
 have Hr := Lib.hid hr; clear hr
 go_enter Tryz.func208, Tryz.ntmps208
 go_wp2_with fail
 go_loop [8] (fun i => ∃ k : Nat, k ≤ 3 ∧ i = .int .i64 k ∧ Hid (0 < k → x = 0) ∧ Hid (1 < k → y = 0) ∧ Hid (2 < k → z = 0)) (fun i => 3 - (intOf i).toNat)
 case atStart => exact ⟨0, by omega, rfl, fun h => absurd h (by omega), fun h => absurd h (by omega), fun h => absurd h (by omega)⟩
 case round =>
  obtain ⟨k, hk, rfl, h0, h1, h2⟩ := hrel
  have hc3 : k = 0 ∨ k = 1 ∨ k = 2 ∨ k = 3 := by omega
  rcases hc3 with rfl | rfl | rfl | rfl
  ·by_cases hx : x = 0
   ·subst hx
    go_wp2_with fail
    go_round
    case rel => exact ⟨1, by omega, by go_num, fun _ => by trivial, fun h => absurd h (by omega), fun h => absurd h (by omega)⟩
    case measure => simp [intOf]
   ·have hx1 : (x != 0) = true := by simpa using hx
    have e : r = x := by rw [← Hr.out, or3, if_pos hx]
    subst e
    clear hx Hr
    go_wp2_with fail
    go_ret
    exact ⟨rfl, rfl⟩
  ·have hx : x = 0 := h0.out (by omega)
   subst hx
   by_cases hy : y = 0
   ·subst hy
    clear h0 h1 h2
    go_wp2_with fail
    go_round
    case rel => exact ⟨2, by omega, by go_num, fun _ => by trivial, fun _ => by trivial, fun h => absurd h (by omega)⟩
    case measure => simp [intOf]
   ·have hy1 : (y != 0) = true := by simpa using hy
    have e : r = y := by rw [← Hr.out, or3, if_neg (by simp), if_pos hy]
    subst e
    clear hy Hr h0 h1 h2
    go_wp2_with fail
    go_ret
    exact ⟨rfl, rfl⟩
  ·have hx : x = 0 := h0.out (by omega)
   have hy : y = 0 := h1.out (by omega)
   subst hx hy
   have e : r = z := by rw [← Hr.out, or3, if_neg (by simp), if_neg (by simp)]
   subst e
   clear Hr h0 h1 h2
   by_cases hz : r = 0
   ·subst hz
    go_wp2_with fail
    go_round
    case rel => exact ⟨3, by omega, by go_num, fun _ => by trivial, fun _ => by trivial, fun _ => by trivial⟩
    case measure => simp [intOf]
   ·have hz1 : (r != 0) = true := by simpa using hz
    clear hz
    go_wp2_with fail
    go_ret
    exact ⟨rfl, rfl⟩
  ·have hx : x = 0 := h0.out (by omega)
   have hy : y = 0 := h1.out (by omega)
   have hz : z = 0 := h2.out (by omega)
   subst hx hy hz
   have e : r = 0 := by rw [← Hr.out, or3, if_neg (by simp), if_neg (by simp)]
   subst e
   clear Hr h0 h1 h2
   go_wp2_with fail
   go_ret
   exact ⟨rfl, rfl⟩
def Tw.enc (r : Tw) : List Value := [.int .i64 r.k, .int .u32 r.p.a, .int .i64 r.p.l, .int .i64 r.d]
theorem Tw.len (r : Tw) : r.enc.length = 4 := rfl
set_option maxRecDepth 100000 in
theorem veg (r s : Tw) (w : World) : Calls Tryz.prog 356 #[.agg #[.int .i64 r.k, .int .u32 r.p.a, .int .i64 r.p.l, .int .i64 r.d], .agg #[.int .i64 s.k, .int .u32 s.p.a, .int .i64 s.p.l, .int .i64 s.d]] w fun e w' => e = .returned (.int .i64 (ordT r s)) ∧ Kp w w' := by
 obtain ⟨W, hW, kW, B0, B1⟩ := Blk.al2 (w := w) rfl #[.int .i64 r.k, .int .u32 r.p.a, .int .i64 r.p.l, .int .i64 r.d] 337 #[.int .i64 s.k, .int .u32 s.p.a, .int .i64 s.p.l, .int .i64 s.d] 337
 obtain ⟨x, hx⟩ : ∃ x, cmpI r.d s.d = x := ⟨_, rfl⟩
 obtain ⟨y, hy⟩ : ∃ y, cmpI r.k s.k = y := ⟨_, rfl⟩
 obtain ⟨z, hz⟩ : ∃ z, ordI r.p.a r.p.l s.p.a s.p.l = z := ⟨_, rfl⟩
 have Hx := Lib.hid hx
 have Hy := Lib.hid hy
 have Hz := Lib.hid hz
 have Hr : Hid (ordT r s = or3 x y z) := by rw [← hx, ← hy, ← hz]; exact Lib.hid rfl
 clear hx hy hz
 obtain ⟨p0, p1, p2, p3⟩ := Blk.v4 B0 (.int .i64 r.k) (.int .u32 r.p.a) (.int .i64 r.p.l) (.int .i64 r.d) rfl
 obtain ⟨q0, q1, q2, q3⟩ := Blk.v4 B1 (.int .i64 s.k) (.int .u32 s.p.a) (.int .i64 s.p.l) (.int .i64 s.d) rfl
 have K : Kp W W.drew := (Kp.refl W).drew
 go_enter Tryz.func356, Tryz.ntmps356
 go_wp2_with fail
 try rw [hW]
 clear hW
 go_region_held3 (fun w' => w'.cell? ⟨w.heap.size, 0, none⟩ = some (.int .i64 r.k) ∧ w'.cell? ⟨w.heap.size, 1, none⟩ = some (.int .u32 r.p.a) ∧ w'.cell? ⟨w.heap.size, 2, none⟩ = some (.int .i64 r.p.l) ∧ w'.cell? ⟨w.heap.size, 3, none⟩ = some (.int .i64 r.d) ∧ w'.cell? ⟨w.heap.size + 1, 0, none⟩ = some (.int .i64 s.k) ∧ w'.cell? ⟨w.heap.size + 1, 1, none⟩ = some (.int .u32 s.p.a) ∧ w'.cell? ⟨w.heap.size + 1, 2, none⟩ = some (.int .i64 s.p.l) ∧ w'.cell? ⟨w.heap.size + 1, 3, none⟩ = some (.int .i64 s.d))
  (first | exact ⟨K.cell p0, K.cell p1, K.cell p2, K.cell p3, K.cell q0, K.cell q1, K.cell q2, K.cell q3⟩ | exact ⟨(K.alloc _).cell p0, (K.alloc _).cell p1, (K.alloc _).cell p2, (K.alloc _).cell p3, (K.alloc _).cell q0, (K.alloc _).cell q1, (K.alloc _).cell q2, (K.alloc _).cell q3⟩ | go_keep)
  (first
   | (go_at_call 357; refine (viW r.d s.d _).mono ?_; rintro e w' ⟨rfl, rfl⟩; rw [Hx.out])
   | (go_at_call 358; refine (viX r.k s.k _).mono ?_; rintro e w' ⟨rfl, rfl⟩; rw [Hy.out])
   | (go_at_call 152; refine (vhk r.p.a r.p.l s.p.a s.p.l _).mono ?_; rintro e wv ⟨rfl, hKv⟩; rw [Hz.out]; have K := K.trans hKv; clear hKv)
   | (go_at_call 208; refine (viY x y z _ _ (Blk.new _ _ _)).mono ?_; rintro e w' ⟨rfl, rfl⟩; rw [← Hr.out]))
 all_goals (try go_wp2_with fail)
 all_goals go_ret
 all_goals exact ⟨rfl, (kW.trans K).alloc _⟩
theorem tw_at {w : World} {A : Option Addr} {xs : List Tw} (h : Rd w 4 Tw.enc A xs) {k : Nat} (hk : k < xs.length) : ∃ b off : Nat, A = some ⟨b, off, none⟩ ∧ w.cell? ⟨b, off + k * 4, none⟩ = some (.int .i64 xs[k].k) ∧ w.cell? ⟨b, off + k * 4 + 1, none⟩ = some (.int .u32 (xs[k].p.a : Int)) ∧ w.cell? ⟨b, off + k * 4 + 2, none⟩ = some (.int .i64 xs[k].p.l) ∧ w.cell? ⟨b, off + k * 4 + 3, none⟩ = some (.int .i64 xs[k].d) := by
 obtain ⟨b, off, e, hc⟩ := h k hk
 exact ⟨b, off, e, by simpa using hc 0 _ rfl, by simpa using hc 1 _ rfl, by simpa using hc 2 _ rfl, by simpa using hc 3 _ rfl⟩
theorem vaU (q : Nat) (s : Value) (A : Option Addr) (n c : Nat) (w : World) (h : Blk w q 214 #[.slice A n c, s]) : Calls Tryz.prog 263 #[.pointer (some ⟨q, 0, none⟩)] w fun e w' => e = .returned (.int .i64 (n : Int)) ∧ w = w' := by
 have c0 : w.cell? ⟨q, 0, none⟩ = some (.slice A n c) := h.cell 0
 clear h
 go_enter Tryz.func263, Tryz.ntmps263
 go_wp2_with fail
 go_ret
 exact ⟨rfl, rfl⟩
set_option maxRecDepth 100000 in
theorem vaA (q : Nat) (s : Value) (A : Option Addr) (c : Nat) (l : List Tw) (i j : Nat) (w : World) (h : Blk w q 214 #[.slice A l.length c, s]) (hR : Rd w 4 Tw.enc A l) (hi : i < l.length) (hj : j < l.length) :
  Calls Tryz.prog 352 #[.pointer (some ⟨q, 0, none⟩), .int .i64 (i : Int), .int .i64 (j : Int)] w fun e w' => e = .returned (.bool (ltT l[i] l[j])) ∧ Kp w w' := by
 have c0 : w.cell? ⟨q, 0, none⟩ = some (.slice A l.length c) := h.cell 0
 obtain ⟨b, off, hA, x0, x1, x2, x3⟩ := tw_at hR hi
 obtain ⟨b', off', hA', y0, y1, y2, y3⟩ := tw_at hR hj
 subst hA
 injection hA' with hA'
 injection hA' with e1 e2
 subst e1
 subst e2
 obtain ⟨r, hr⟩ : ∃ r, l[i] = r := ⟨_, rfl⟩
 obtain ⟨t, ht⟩ : ∃ t, l[j] = t := ⟨_, rfl⟩
 rw [hr] at x0 x1 x2 x3 ⊢
 rw [ht] at y0 y1 y2 y3 ⊢
 have i0 : (0 : Int) ≤ (i : Int) := by omega
 have i1 : (i : Int) < (l.length : Int) := by omega
 have j0 : (0 : Int) ≤ (j : Int) := by omega
 have j1 : (j : Int) < (l.length : Int) := by omega
 clear h hR hi hj hr ht
 go_enter Tryz.func352, Tryz.ntmps352
 go_wp2_with fail
 go_still_tail 14, (by kernel_rfl)
 change wpList _ _ _ _ _ w.drew
 go_wp2_with fail
 refine (veg r t _).mono ?_
 rintro e w1 ⟨rfl, K1⟩
 go_wp2_with fail
 go_ret
 exact ⟨rfl, (Kp.refl w).drew.trans K1⟩
end

end Go.Proofs.YtgopnfacklmkaaaGreatDoor
