/- Lemmas and contracts for the theorem of this claim: VKdB, VLen, EntL, VWhy. -/
import Derived.Test.YtgopnfacklmkaaaGreatDoorZzAc
import Derived.Lib.Hide
set_option linter.all false
set_option maxHeartbeats 16000000
namespace Go.Proofs.YtgopnfacklmkaaaGreatDoor
section
open Go.RowKit
set_option maxRecDepth 100000 in
theorem vep (a : Nat) (w : World) (ha : a < 4294967296) : Calls Tryz.prog 257 #[.int .u32 a] w fun e w' => e = .returned (.int .i64 (kindAd a)) ∧ Kp w w' := by
 have Hat := Lib.hid (fun k (hk : k < 6) => vnk (a := a) hk)
 go_enter Tryz.func257, Tryz.ntmps257
 go_wp2_with fail
 refine (veI _).mono ?_
 rintro e w1 ⟨rfl, hC, hR, hK1⟩
 go_wp2_with fail
 go_loopw [7] (fun i wr => ∃ k : Nat, k ≤ 5 ∧ i = .int .i64 k ∧ Hid (∀ j, j < k → kindAB j a = false) ∧ Kp w1 wr) (fun i _ => 6 - (intOf i).toNat)
 case atStart => exact ⟨0, by omega, rfl, fun _ h => absurd h (by omega), Kp.refl _⟩
 case round =>
  obtain ⟨k, hk, rfl, hall, hK⟩ := hrel
  have C := hC.keep hK
  have R := hR.keep hK
  have kw := hK1.trans hK
  have hk2 : k = 0 ∨ k = 1 ∨ k = 2 ∨ k = 3 ∨ k = 4 ∨ k = 5 := by omega
  rcases hk2 with rfl | rfl | rfl | rfl | rfl | rfl
  ·obtain ⟨c0, c1⟩ := Blk.v2 R (.int .i64 1) (.func (.func 318) #[] #[]) rfl
   have B := Blk.new wr 417 #[.int .i64 1, .func (.func 318) #[] #[]]
   go_wp2_with fail
   refine (vnl a _).mono ?_
   rintro e w2 ⟨rfl, hK2⟩
   have B2 := B.keep hK2
   have k2 : Kp w1 w2 := (hK.alloc _).trans hK2
   have d0 : w2.cell? ⟨wr.heap.size, 0, none⟩ = some (.int .i64 1) := B2.cell 0
   cases hb : kindAB 0 a with
   | true =>
    have H := Lib.hid (Hat.out 0 (by omega) hall.out hb)
    clear hb
    go_wp2_with fail
    go_ret
    exact ⟨by rw [H.out]; rfl, hK1.trans k2⟩
   | false =>
    have Hb := Lib.hid hb; clear hb
    go_wp2_with fail
    go_roundw
    case rel =>
     refine ⟨1, by omega, by go_num, fun j hj => ?_, k2⟩
     by_cases e : j = 0
     ·subst e; exact Hb.out
     ·exact hall.out j (by omega)
    case measure => simp [intOf] <;> omega
  ·obtain ⟨-, -, c0, c1⟩ := Blk.v4 R _ _ (.int .i64 2) (.func (.func 319) #[] #[.pointer (some ⟨w.heap.size, 0, none⟩)]) rfl
   have B := Blk.new wr 417 #[.int .i64 2, .func (.func 319) #[] #[.pointer (some ⟨w.heap.size, 0, none⟩)]]
   go_wp2_with fail
   refine (vnn a w.heap.size _ ha (C.alloc _)).mono ?_
   rintro e w2 ⟨rfl, hK2⟩
   have B2 := B.keep hK2
   have k2 : Kp w1 w2 := (hK.alloc _).trans hK2
   have d0 : w2.cell? ⟨wr.heap.size, 0, none⟩ = some (.int .i64 2) := B2.cell 0
   cases hb : kindAB 1 a with
   | true =>
    have H := Lib.hid (Hat.out 1 (by omega) hall.out hb)
    clear hb
    go_wp2_with fail
    go_ret
    exact ⟨by rw [H.out]; rfl, hK1.trans k2⟩
   | false =>
    have Hb := Lib.hid hb; clear hb
    go_wp2_with fail
    go_roundw
    case rel =>
     refine ⟨2, by omega, by go_num, fun j hj => ?_, k2⟩
     by_cases e : j = 1
     ·subst e; exact Hb.out
     ·exact hall.out j (by omega)
    case measure => simp [intOf] <;> omega
  ·obtain ⟨-, -, -, -, c0, c1⟩ := Blk.v6 R _ _ _ _ (.int .i64 3) (.func (.func 320) #[] #[.pointer (some ⟨w.heap.size, 0, none⟩)]) rfl
   have B := Blk.new wr 417 #[.int .i64 3, .func (.func 320) #[] #[.pointer (some ⟨w.heap.size, 0, none⟩)]]
   go_wp2_with fail
   refine (vno a w.heap.size _ ha (C.alloc _)).mono ?_
   rintro e w2 ⟨rfl, hK2⟩
   have B2 := B.keep hK2
   have k2 : Kp w1 w2 := (hK.alloc _).trans hK2
   have d0 : w2.cell? ⟨wr.heap.size, 0, none⟩ = some (.int .i64 3) := B2.cell 0
   cases hb : kindAB 2 a with
   | true =>
    have H := Lib.hid (Hat.out 2 (by omega) hall.out hb)
    clear hb
    go_wp2_with fail
    go_ret
    exact ⟨by rw [H.out]; rfl, hK1.trans k2⟩
   | false =>
    have Hb := Lib.hid hb; clear hb
    go_wp2_with fail
    go_roundw
    case rel =>
     refine ⟨3, by omega, by go_num, fun j hj => ?_, k2⟩
     by_cases e : j = 2
     ·subst e; exact Hb.out
     ·exact hall.out j (by omega)
    case measure => simp [intOf] <;> omega
  ·obtain ⟨-, -, -, -, -, -, c0, c1⟩ := Blk.v8 R _ _ _ _ _ _ (.int .i64 4) (.func (.func 321) #[] #[.pointer (some ⟨w.heap.size, 0, none⟩)]) rfl
   have B := Blk.new wr 417 #[.int .i64 4, .func (.func 321) #[] #[.pointer (some ⟨w.heap.size, 0, none⟩)]]
   go_wp2_with fail
   refine (vnq a w.heap.size _ ha (C.alloc _)).mono ?_
   rintro e w2 ⟨rfl, hK2⟩
   have B2 := B.keep hK2
   have k2 : Kp w1 w2 := (hK.alloc _).trans hK2
   have d0 : w2.cell? ⟨wr.heap.size, 0, none⟩ = some (.int .i64 4) := B2.cell 0
   cases hb : kindAB 3 a with
   | true =>
    have H := Lib.hid (Hat.out 3 (by omega) hall.out hb)
    clear hb
    go_wp2_with fail
    go_ret
    exact ⟨by rw [H.out]; rfl, hK1.trans k2⟩
   | false =>
    have Hb := Lib.hid hb; clear hb
    go_wp2_with fail
    go_roundw
    case rel =>
     refine ⟨4, by omega, by go_num, fun j hj => ?_, k2⟩
     by_cases e : j = 3
     ·subst e; exact Hb.out
     ·exact hall.out j (by omega)
    case measure => simp [intOf] <;> omega
  ·obtain ⟨-, -, -, -, -, -, -, -, c0, c1⟩ := Blk.p10 R
   have B := Blk.new wr 417 #[.int .i64 5, .func (.func 322) #[] #[.pointer (some ⟨w.heap.size, 0, none⟩)]]
   go_wp2_with fail
   refine (vnp a w.heap.size _ ha (C.alloc _)).mono ?_
   rintro e w2 ⟨rfl, hK2⟩
   have B2 := B.keep hK2
   have k2 : Kp w1 w2 := (hK.alloc _).trans hK2
   have d0 : w2.cell? ⟨wr.heap.size, 0, none⟩ = some (.int .i64 5) := B2.cell 0
   cases hb : kindAB 4 a with
   | true =>
    have H := Lib.hid (Hat.out 4 (by omega) hall.out hb)
    clear hb
    go_wp2_with fail
    go_ret
    exact ⟨by rw [H.out]; rfl, hK1.trans k2⟩
   | false =>
    have Hb := Lib.hid hb; clear hb
    go_wp2_with fail
    go_roundw
    case rel =>
     refine ⟨5, by omega, by go_num, fun j hj => ?_, k2⟩
     by_cases e : j = 4
     ·subst e; exact Hb.out
     ·exact hall.out j (by omega)
    case measure => simp [intOf] <;> omega
  ·obtain ⟨-, -, -, -, -, -, -, -, -, -, c0, c1⟩ := Blk.v12 R _ _ _ _ _ _ _ _ _ _ (.int .i64 6) (.func (.func 323) #[] #[]) rfl
   have B := Blk.new wr 417 #[.int .i64 6, .func (.func 323) #[] #[]]
   go_wp2_with fail
   refine (vnm a _).mono ?_
   rintro e w2 ⟨rfl, hK2⟩
   have B2 := B.keep hK2
   have k2 : Kp w1 w2 := (hK.alloc _).trans hK2
   have d0 : w2.cell? ⟨wr.heap.size, 0, none⟩ = some (.int .i64 6) := B2.cell 0
   cases hb : kindAB 5 a with
   | true =>
    have H := Lib.hid (Hat.out 5 (by omega) hall.out hb)
    clear hb
    go_wp2_with fail
    go_ret
    exact ⟨by rw [H.out]; rfl, hK1.trans k2⟩
   | false => cases hb
def len8 (t : Nat) : Nat := if t < 1 then 0 else if t < 2 then 1 else if t < 4 then 2 else if t < 8 then 3 else if t < 16 then 4 else if t < 32 then 5 else if t < 64 then 6 else if t < 128 then 7 else 8
def len32 (x : Nat) : Nat := if 65536 ≤ x then (if 256 ≤ x / 65536 then 24 + len8 (x / 65536 / 256) else 16 + len8 (x / 65536)) else if 256 ≤ x then 8 + len8 (x / 256) else len8 x
theorem vcK (t : Nat) : len8 t ≤ 8 := by
 unfold len8
 repeat' split
 all_goals omega
theorem vlo (x : Nat) : len32 x ≤ 32 := by
 have h1 := vcK (x / 65536 / 256)
 have h2 := vcK (x / 65536)
 have h3 := vcK (x / 256)
 have h4 := vcK x
 unfold len32
 repeat' (split)
 all_goals omega
theorem viQ {m : Nat} (h : m ≤ 32) : len32 (2 ^ m - 1) = m := by
 have H : ∀ m : Fin 33, len32 (2 ^ m.val - 1) = m.val := by decide +kernel
 exact H ⟨m, by omega⟩
def lenM (m : Nat) : Nat := 32 - len32 (4294967295 - m)
theorem viR {n : Nat} (h : n ≤ 32) : lenM (maskN n) = n := by
 have h1 := vdd n
 have h2 : 0 < 2 ^ (32 - n) := Nat.two_pow_pos _
 have e : 4294967295 - maskN n = 2 ^ (32 - n) - 1 := by unfold maskN; omega
 unfold lenM
 rw [e, viQ (by omega)]
 omega
def isM (m : Nat) : Bool := maskN (lenM m) == m
theorem vlp {n : Nat} (h : n ≤ 32) : isM (maskN n) = true := by unfold isM; rw [viR h]; simp
abbrev tab8 : ByteArray := { data := (([0, 1, 2, 2, 3, 3, 3, 3, 4, 4, 4, 4, 4, 4, 4, 4, 5, 5, 5, 5, 5, 5, 5, 5, 5, 5, 5, 5, 5, 5, 5, 5, 6, 6, 6, 6, 6, 6, 6, 6, 6, 6, 6, 6, 6, 6, 6, 6, 6, 6, 6, 6, 6, 6, 6, 6, 6, 6, 6, 6, 6, 6, 6, 6].append [7, 7, 7, 7, 7, 7, 7, 7, 7, 7, 7, 7, 7, 7, 7, 7, 7, 7, 7, 7, 7, 7, 7, 7, 7, 7, 7, 7, 7, 7, 7, 7, 7, 7, 7, 7, 7, 7, 7, 7, 7, 7, 7, 7, 7, 7, 7, 7, 7, 7, 7, 7, 7, 7, 7, 7, 7, 7, 7, 7, 7, 7, 7, 7]).append ([8, 8, 8, 8, 8, 8, 8, 8, 8, 8, 8, 8, 8, 8, 8, 8, 8, 8, 8, 8, 8, 8, 8, 8, 8, 8, 8, 8, 8, 8, 8, 8, 8, 8, 8, 8, 8, 8, 8, 8, 8, 8, 8, 8, 8, 8, 8, 8, 8, 8, 8, 8, 8, 8, 8, 8, 8, 8, 8, 8, 8, 8, 8, 8].append [8, 8, 8, 8, 8, 8, 8, 8, 8, 8, 8, 8, 8, 8, 8, 8, 8, 8, 8, 8, 8, 8, 8, 8, 8, 8, 8, 8, 8, 8, 8, 8, 8, 8, 8, 8, 8, 8, 8, 8, 8, 8, 8, 8, 8, 8, 8, 8, 8, 8, 8, 8, 8, 8, 8, 8, 8, 8, 8, 8, 8, 8, 8, 8])).toArray }
theorem vdr : tab8.size = 256 := by decide +kernel
theorem viS {t : Nat} (h : t < tab8.size) : (tab8[t]'h).toNat = len8 t := by
 have e : ∀ t : Fin 256, (tab8.data.toList.getD t.val 0).toNat = len8 t.val := by decide +kernel
 have e3 : tab8[t]'h = tab8.data.toList.getD t 0 := by
  show tab8.data[t]'_ = _
  rw [List.getD_eq_getElem?_getD, List.getElem?_eq_getElem (by rw [Array.length_toList]; exact h), Option.getD_some, Array.getElem_toList]
 rw [e3, e ⟨t, by rw [← vdr]; exact h⟩]
theorem vgj {n t k : Nat} (h : t < 256) (hn : n ≤ 24) (hk : n + len8 t = k) : Ending.returned (.int .i64 (wrap64 ((n : Int) + wrap64 ((tab8[t]'(by rw [vdr]; exact h)).toNat : Int)))) = .returned (.int .i64 (k : Int)) := by
 have hl := vcK t
 rw [viS, IntWalk.wrap64_in (len8 t : Int) ⟨by omega, by omega⟩, IntWalk.wrap64_in _ ⟨by omega, by omega⟩, ← hk]
 rfl
theorem vlq {t k : Nat} (h : t < 256) (hk : len8 t = k) : Ending.returned (.int .i64 (wrap64 (wrap64 ((tab8[t]'(by rw [vdr]; exact h)).toNat : Int)))) = .returned (.int .i64 (k : Int)) := by
 have hl := vcK t
 rw [viS, IntWalk.wrap64_in (len8 t : Int) ⟨by omega, by omega⟩, IntWalk.wrap64_in _ ⟨by omega, by omega⟩, ← hk]
set_option maxRecDepth 100000 in
theorem viT (x : Nat) (w : World) (hx : x < 4294967296) : Calls Tryz.prog 273 #[.int .u32 (x : Int)] w fun e w' => e = .returned (.int .i64 (len32 x : Int)) ∧ w = w' := by
 by_cases h1 : 65536 ≤ x
 ·have d1 : decide ((65536 : Int) ≤ (x : Int)) = true := by simp; omega
  have q1 : (x : Int) / 65536 = ((x / 65536 : Nat) : Int) := by omega
  obtain ⟨y, hy⟩ : ∃ y, x / 65536 = y := ⟨_, rfl⟩
  have hyb : y < 65536 := by omega
  rw [hy] at q1
  by_cases h2 : 256 ≤ y
  ·have d2 : decide ((256 : Int) ≤ (y : Int)) = true := by simp; omega
   have q2 : (y : Int) / 256 = ((y / 256 : Nat) : Int) := by omega
   obtain ⟨t, ht⟩ : ∃ t, y / 256 = t := ⟨_, rfl⟩
   have H : Hid (24 + len8 t = len32 x) := Lib.hid (by unfold len32; rw [if_pos h1, hy, if_pos h2, ht])
   have hl : t < 256 := by omega
   rw [ht] at q2
   go_enter Tryz.func273, Tryz.ntmps273
   go_wp2_with fail
   go_ret
   exact ⟨vgj hl (by decide) H.out, rfl⟩
  ·have d2 : decide ((256 : Int) ≤ (y : Int)) = false := by simp; omega
   have H : Hid (16 + len8 y = len32 x) := Lib.hid (by unfold len32; rw [if_pos h1, hy, if_neg h2])
   have hl : y < 256 := by omega
   go_enter Tryz.func273, Tryz.ntmps273
   go_wp2_with fail
   go_ret
   exact ⟨vgj hl (by decide) H.out, rfl⟩
 ·have d1 : decide ((65536 : Int) ≤ (x : Int)) = false := by simp; omega
  by_cases h2 : 256 ≤ x
  ·have d2 : decide ((256 : Int) ≤ (x : Int)) = true := by simp; omega
   have q2 : (x : Int) / 256 = ((x / 256 : Nat) : Int) := by omega
   obtain ⟨t, ht⟩ : ∃ t, x / 256 = t := ⟨_, rfl⟩
   have H : Hid (8 + len8 t = len32 x) := Lib.hid (by unfold len32; rw [if_neg h1, if_pos h2, ht])
   have hl : t < 256 := by omega
   rw [ht] at q2
   go_enter Tryz.func273, Tryz.ntmps273
   go_wp2_with fail
   go_ret
   exact ⟨vgj hl (by decide) H.out, rfl⟩
  ·have d2 : decide ((256 : Int) ≤ (x : Int)) = false := by simp; omega
   have H : Hid (len8 x = len32 x) := Lib.hid (by unfold len32; rw [if_neg h1, if_neg h2])
   have hl : x < 256 := by omega
   go_enter Tryz.func273, Tryz.ntmps273
   go_wp2_with fail
   go_ret
   exact ⟨vlq hl H.out, rfl⟩
theorem vnr (x : Nat) (hx : x < 4294967296) : bits .xor .u32 IntKind.u32.max (x : Int) = ((4294967295 - x : Nat) : Int) := by
 have h1 : (BitVec.ofInt 32 (x : Int)).toNat = x := by
  rw [BitVec.ofInt_natCast, BitVec.toNat_ofNat]; exact Nat.mod_eq_of_lt (by omega)
 have h2 : BitVec.ofInt 32 IntKind.u32.max = BitVec.allOnes 32 := by decide
 show IntKind.u32.wrap ((BitVec.ofInt 32 IntKind.u32.max ^^^ BitVec.ofInt 32 (x : Int)).toNat : Int) = _
 rw [h2, BitVec.allOnes_xor, BitVec.toNat_not, h1]
 show ((2 ^ 32 - 1 - x : Nat) : Int) % 4294967296 = _
 omega
theorem vgk (n : Nat) (w : World) (h1 : n ≤ 32) :
  Calls Tryz.prog 229 #[.int .i64 n] w fun e w' => e = .returned (.tuple #[.int .u32 (maskN n), .int .i64 0]) ∧ w = w' := by
 have d0 : decide ((n : Int) < 0) = false := by simp
 have d1 : decide ((32 : Int) < (n : Int)) = false := by simp; omega
 go_enter Tryz.func229, Tryz.ntmps229
 go_wp2_with fail
 refine vac 0 rfl ?_
 go_wp2_with fail
 refine (vbt n _ h1).mono ?_
 rintro e w' ⟨rfl, rfl⟩
 go_wp2_with fail
 refine vak ?_
 go_ret2
 exact ⟨rfl, rfl⟩
theorem vmZ (y m : Nat) (w : World) (hy : y < 4294967296) (hm : len32 y = m) : Calls Tryz.prog 228 #[.int .u32 (y : Int)] w fun e w' => e = .returned (.int .i64 ((32 - m : Nat) : Int)) ∧ w = w' := by
 have hl : m ≤ 32 := by rw [← hm]; exact vlo y
 have H : Hid (wrap64 (32 - (m : Int)) = ((32 - m : Nat) : Int)) := Lib.hid (by rw [IntWalk.wrap64_in _ ⟨by omega, by omega⟩]; omega)
 have HM := Lib.hid hm
 clear hm
 go_enter Tryz.func228, Tryz.ntmps228
 go_wp2_with fail
 refine (viT y _ hy).mono ?_
 rintro e w' ⟨rfl, rfl⟩
 rw [HM.out]
 go_wp2_with fail
 go_ret
 exact ⟨by simp; omega, rfl⟩
def lenV (m : Nat) : Value := .tuple #[.int .i64 (if isM m then (lenM m : Int) else 0), .int .i64 (if isM m then 0 else 120)]
theorem vgR (m : Nat) (w : World) (hm : m < 4294967296) : Calls Tryz.prog 161 #[.int .u32 (m : Int)] w fun e w' => e = .returned (lenV m) ∧ w = w' := by
 have Hx := Lib.hid (vnr m hm)
 obtain ⟨y, hy⟩ : ∃ y, 4294967295 - m = y := ⟨_, rfl⟩
 rw [hy] at Hx
 have hyb : y < 4294967296 := by omega
 obtain ⟨L, hL⟩ : ∃ L, lenM m = L := ⟨_, rfl⟩
 have hL2 : 32 - len32 y = L := by rw [← hL, ← hy]; rfl
 have hl : L ≤ 32 := by omega
 have hml := vco L
 cases hi : isM m with
 | true =>
  have e : maskN L = m := by unfold isM at hi; rw [hL] at hi; simpa using hi
  have HL := Lib.hid hL2
  have HV : Hid (lenV m = .tuple #[.int .i64 (L : Int), .int .i64 0]) := Lib.hid (by unfold lenV; rw [hi, hL]; rfl)
  have hne : ((m : Int) != (m : Int)) = false := by simp
  clear hi hL hL2 hy
  go_enter Tryz.func161, Tryz.ntmps161
  go_wp2_with fail
  refine vac 0 rfl ?_
  go_wp2_with fail
  rw [Hx.out]
  refine (vmZ y _ _ hyb rfl).mono ?_
  rintro e w' ⟨rfl, rfl⟩
  rw [HL.out]
  go_wp2_with fail
  refine (vgk L _ hl).mono ?_
  rintro e w' ⟨rfl, rfl⟩
  rw [e]
  go_wp2_with fail
  refine vak ?_
  go_ret2
  exact ⟨by rw [HV.out]; rfl, rfl⟩
 | false =>
  have e : maskN L ≠ m := by unfold isM at hi; rw [hL] at hi; simpa using hi
  have HL := Lib.hid hL2
  have HV : Hid (lenV m = .tuple #[.int .i64 0, .int .i64 120]) := Lib.hid (by unfold lenV; rw [hi]; rfl)
  have hne : ((maskN L : Int) != (m : Int)) = true := by simp; omega
  clear hi hL hL2 hy
  go_enter Tryz.func161, Tryz.ntmps161
  go_wp2_with fail
  refine vac 0 rfl ?_
  go_wp2_with fail
  rw [Hx.out]
  refine (vmZ y _ _ hyb rfl).mono ?_
  rintro e w' ⟨rfl, rfl⟩
  rw [HL.out]
  go_wp2_with fail
  refine (vgk L _ hl).mono ?_
  rintro e w' ⟨rfl, rfl⟩
  go_wp2_with fail
  refine wp_goto ?_
  refine And.intro rfl ?_
  go_wp2_with fail
  refine vbl ?_
  go_ret2
  exact ⟨by rw [HV.out]; rfl, rfl⟩
end

section
structure En where
 f : Int
 t : Int
 a : Nat
 m : Nat
 n : Nat
 k : Nat
deriving DecidableEq
def En.wf (e : En) : Prop := e.a < 4294967296 ∧ e.m < 4294967296 ∧ e.n < 4294967296 ∧ e.k < 4294967296
end

section
open Go.RowKit
def enC (e : En) : Array Value := #[.int .i64 e.f, .int .i64 e.t, .int .u32 (e.a : Int), .int .u32 (e.m : Int), .int .u32 (e.n : Int), .int .u32 (e.k : Int)]
abbrev enV (e : En) : Value := .agg #[.int .i64 e.f, .int .i64 e.t, .int .u32 (e.a : Int), .int .u32 (e.m : Int), .int .u32 (e.n : Int), .int .u32 (e.k : Int)]
def badK (a m : Nat) : Bool := if kindAd a = 6 then false else if kindAd a = 1 then ((m : Int) != 0) else true
def rulB (e : En) : Nat → Bool
 | 0 => e.f != 2
 | 1 => !isM e.m
 | 2 => bits .andNot .u32 (e.a : Int) (e.m : Int) != 0
 | 3 => badK e.a e.m
 | 4 => (e.n : Int) != 0
 | _ => decide ((e.k : Int) < 1) || decide ((16 : Int) < (e.k : Int))
def whyE (e : En) : Int := if rulB e 0 then 1 else if rulB e 1 then 2 else if rulB e 2 then 3 else if rulB e 3 then 4 else if rulB e 4 then 5 else if rulB e 5 then 6 else 0
theorem vns {e : En} {k : Nat} (hk : k < 6) (h : ∀ j, j < k → rulB e j = false) (h1 : rulB e k = true) : whyE e = ((k + 1 : Nat) : Int) := by
 have hc : k = 0 ∨ k = 1 ∨ k = 2 ∨ k = 3 ∨ k = 4 ∨ k = 5 := by omega
 unfold whyE
 rcases hc with rfl | rfl | rfl | rfl | rfl | rfl
 ·simp [h1]
 ·simp [h1, h 0]
 ·simp [h1, h 0, h 1]
 ·simp [h1, h 0, h 1, h 2]
 ·simp [h1, h 0, h 1, h 2, h 3]
 ·simp [h1, h 0, h 1, h 2, h 3, h 4]
theorem vnt {e : En} (h : ∀ j, j < 6 → rulB e j = false) : whyE e = 0 := by
 unfold whyE
 simp [h 0, h 1, h 2, h 3, h 4, h 5]
theorem vds (a : Nat) : 1 ≤ kindAd a ∧ kindAd a ≤ 6 := by unfold kindAd; split <;> (try split) <;> (try split) <;> (try split) <;> (try split) <;> omega
set_option maxRecDepth 100000 in
theorem vnu (e : En) (w : World) : Calls Tryz.prog 287 #[enV e] w fun r w' => r = .returned (.bool (rulB e 0)) ∧ Kp w w' := by
 go_enter Tryz.func287, Tryz.ntmps287
 go_wp2_with fail
 go_ret
 exact ⟨rfl, (Kp.refl _).alloc _⟩
set_option maxRecDepth 100000 in
theorem vnv (e : En) (w : World) (hm : e.m < 4294967296) : Calls Tryz.prog 288 #[enV e] w fun r w' => r = .returned (.bool (rulB e 1)) ∧ Kp w w' := by
 have H : Hid (rulB e 1 = !isM e.m) := Lib.hid rfl
 cases hi : isM e.m with
 | true =>
  have HV : Hid (lenV e.m = .tuple #[.int .i64 (lenM e.m : Int), .int .i64 0]) := Lib.hid (by unfold lenV; rw [hi]; rfl)
  rw [hi] at H
  clear hi
  go_enter Tryz.func288, Tryz.ntmps288
  go_wp2_with fail
  refine (vgR e.m _ hm).mono ?_
  rw [HV.out]
  rintro r w' ⟨rfl, rfl⟩
  go_wp2_with fail
  go_ret
  exact ⟨by rw [H.out]; rfl, (Kp.refl _).alloc _⟩
 | false =>
  have HV : Hid (lenV e.m = .tuple #[.int .i64 0, .int .i64 120]) := Lib.hid (by unfold lenV; rw [hi]; rfl)
  rw [hi] at H
  clear hi
  go_enter Tryz.func288, Tryz.ntmps288
  go_wp2_with fail
  refine (vgR e.m _ hm).mono ?_
  rw [HV.out]
  rintro r w' ⟨rfl, rfl⟩
  go_wp2_with fail
  go_ret
  exact ⟨by rw [H.out]; rfl, (Kp.refl _).alloc _⟩
set_option maxRecDepth 100000 in
theorem vnw (e : En) (w : World) : Calls Tryz.prog 289 #[enV e] w fun r w' => r = .returned (.bool (rulB e 2)) ∧ Kp w w' := by
 go_enter Tryz.func289, Tryz.ntmps289
 go_wp2_with fail
 go_ret
 exact ⟨rfl, (Kp.refl _).alloc _⟩
set_option maxRecDepth 100000 in
theorem vnx (e : En) (w : World) : Calls Tryz.prog 291 #[enV e] w fun r w' => r = .returned (.bool (rulB e 4)) ∧ Kp w w' := by
 go_enter Tryz.func291, Tryz.ntmps291
 go_wp2_with fail
 go_ret
 exact ⟨rfl, (Kp.refl _).alloc _⟩
set_option maxRecDepth 100000 in
theorem vny (e : En) (w : World) : Calls Tryz.prog 292 #[enV e] w fun r w' => r = .returned (.bool (rulB e 5)) ∧ Kp w w' := by
 cases h : decide ((e.k : Int) < 1) with
 | true =>
  have H : Hid (rulB e 5 = true) := Lib.hid (by show (decide ((e.k : Int) < 1) || _) = true; rw [h]; rfl)
  go_enter Tryz.func292, Tryz.ntmps292
  go_wp2_with fail
  go_ret
  exact ⟨by rw [H.out]; rfl, (Kp.refl _).alloc _⟩
 | false =>
  have H : Hid (rulB e 5 = decide ((16 : Int) < (e.k : Int))) := Lib.hid (by show (decide ((e.k : Int) < 1) || _) = _; rw [h]; rfl)
  go_enter Tryz.func292, Tryz.ntmps292
  go_wp2_with fail
  go_ret
  exact ⟨by rw [H.out]; rfl, (Kp.refl _).alloc _⟩
set_option maxRecDepth 100000 in
theorem vnz (e : En) (w : World) (ha : e.a < 4294967296) : Calls Tryz.prog 290 #[enV e] w fun r w' => r = .returned (.bool (rulB e 3)) ∧ Kp w w' := by
 obtain ⟨K, hK⟩ : ∃ K, kindAd e.a = K := ⟨_, rfl⟩
 have hr := vds e.a
 rw [hK] at hr
 have H : Hid (rulB e 3 = if K = 6 then false else if K = 1 then ((e.m : Int) != 0) else true) := Lib.hid (by rw [← hK]; rfl)
 have HK := Lib.hid hK
 clear hK
 obtain ⟨W, hW, kW, B0⟩ := Blk.al1 (w := w) rfl (enC e) 66
 unfold enC at hW B0
 have c2 : W.cell? ⟨w.heap.size, 2, none⟩ = some (.int .u32 (e.a : Int)) := B0.cell 2
 go_enter Tryz.func290, Tryz.ntmps290
 go_wp2_with fail
 refine (vep e.a _ ha).mono ?_
 rintro r w1 ⟨rfl, hK1⟩
 have k1 := kW.trans hK1
 have B1 := B0.keep hK1
 have d3 : w1.cell? ⟨w.heap.size, 3, none⟩ = some (.int .u32 (e.m : Int)) := B1.cell 3
 rw [HK.out]
 clear hW c2
 have hk6 : K = 1 ∨ K = 2 ∨ K = 3 ∨ K = 4 ∨ K = 5 ∨ K = 6 := by omega
 rcases hk6 with rfl | rfl | rfl | rfl | rfl | rfl
 all_goals
  go_wp2_with fail
  go_ret
  exact ⟨by rw [H.out]; rfl, k1⟩
def ruF : Nat → FuncId
 | 0 => 287
 | 1 => 288
 | 2 => 289
 | 3 => 290
 | 4 => 291
 | _ => 292
theorem vnA (e : En) (hw : e.wf) : ∀ k, k < 6 → ∀ w, Calls Tryz.prog (ruF k) #[enV e] w fun r w' => r = .returned (.bool (rulB e k)) ∧ Kp w w'
 | 0, _ => vnu e
 | 1, _ => fun w => vnv e w hw.2.1
 | 2, _ => vnw e
 | 3, _ => fun w => vnz e w hw.1
 | 4, _ => vnx e
 | 5, _ => vny e
 | k + 6, h => by omega
def whyCells : Array Value := #[.int .i64 1, .func (.func 287) #[] #[], .int .i64 2, .func (.func 288) #[] #[], .int .i64 3, .func (.func 289) #[] #[], .int .i64 4, .func (.func 290) #[] #[], .int .i64 5, .func (.func 291) #[] #[], .int .i64 6, .func (.func 292) #[] #[]]
theorem vdt : ∀ k, k < 6 → whyCells[k * 2]? = some (.int .i64 ((k + 1 : Nat) : Int)) ∧ whyCells[k * 2 + 1]? = some (.func (.func (ruF k)) #[] #[])
 | 0, _ => ⟨rfl, rfl⟩
 | 1, _ => ⟨rfl, rfl⟩
 | 2, _ => ⟨rfl, rfl⟩
 | 3, _ => ⟨rfl, rfl⟩
 | 4, _ => ⟨rfl, rfl⟩
 | 5, _ => ⟨rfl, rfl⟩
 | k + 6, h => by omega
theorem vlr : ∀ k, k < 6 → ∀ (args : Array Value) (w : World), (callFunc (ruF k) args).run Tryz.prog w = .ok (.enter (ruF k) args) w
 | 0, _ => fun _ _ => by kernel_rfl
 | 1, _ => fun _ _ => by kernel_rfl
 | 2, _ => fun _ _ => by kernel_rfl
 | 3, _ => fun _ _ => by kernel_rfl
 | 4, _ => fun _ _ => by kernel_rfl
 | 5, _ => fun _ _ => by kernel_rfl
 | k + 6, h => by omega
theorem viU (w : World) : Calls Tryz.prog 227 #[] w fun e w' => e = .returned (.slice (some ⟨w.heap.size, 0, none⟩) 6 6) ∧ Blk w' w.heap.size 355 whyCells ∧ Kp w w' := by
 go_enter Tryz.func227, Tryz.ntmps227
 go_wp2_with fail
 go_ret
 exact ⟨rfl, Blk.new w _ _, (Kp.refl _).alloc _⟩
set_option maxRecDepth 100000 in
theorem vls (e : En) (w : World) (hw : e.wf) : Calls Tryz.prog 160 #[enV e] w fun r w' => r = .returned (.int .i64 (whyE e)) ∧ Kp w w' := by
 have HW := Lib.hid hw
 clear hw
 obtain ⟨W, hW, kW, B0⟩ := Blk.al1 (w := w) rfl (enC e) 66
 unfold enC at hW B0
 go_enter Tryz.func160, Tryz.ntmps160
 go_wp2_with fail
 clear hW
 refine (viU _).mono ?_
 obtain ⟨g, hg⟩ : ∃ g, W.heap.size = g := ⟨_, rfl⟩
 rw [hg]
 rintro r w1 ⟨rfl, hR, hK1⟩
 have hB := B0.keep hK1
 have hk1 : Kp w w1 := kW.trans hK1
 clear hK1 B0 kW hg
 go_wp2_with fail
 go_loopw [7] (fun i wr => ∃ k : Nat, k ≤ 6 ∧ i = .int .i64 k ∧ Hid (∀ j, j < k → rulB e j = false) ∧ Kp w1 wr) (fun i _ => 6 - (intOf i).toNat)
 case atStart => exact ⟨0, by omega, rfl, fun j h => absurd h (by omega), Kp.refl _⟩
 case round =>
  obtain ⟨k, hk, rfl, hall, hK⟩ := hrel
  have R := hR.keep hK
  have u := Blk.f (hB.keep hK) rfl
  have kw := hk1.trans hK
  have hlt := (hB.keep hK).lt
  by_cases hk6 : k < 6
  ·have hki : (k : Int) < 6 := by omega
   have hk0 : (0 : Int) ≤ (k : Int) := by omega
   have c0 : wr.cell? ⟨g, k * 2, none⟩ = some (.int .i64 ((k + 1 : Nat) : Int)) := by rw [R.cell]; exact (vdt k hk6).1
   have c1 : wr.cell? ⟨g, k * 2 + 1, none⟩ = some (.func (.func (ruF k)) #[] #[]) := by rw [R.cell]; exact (vdt k hk6).2
   have hc := vlr k hk6
   obtain ⟨fk, hfk⟩ : ∃ fk, ruF k = fk := ⟨_, rfl⟩
   have HC := Lib.hid (vnA e HW.out k hk6)
   rw [hfk] at c1 hc HC
   obtain ⟨n, hn⟩ : ∃ n : Int, ((k + 1 : Nat) : Int) = n := ⟨_, rfl⟩
   rw [hn] at c0
   have HN := Lib.hid hn
   have D := Blk.new wr 355 #[.int .i64 n, .func (.func fk) #[] #[]]
   clear hfk hn
   go_wp2_with fail
   refine (HC.out _).mono ?_
   rintro r w2 ⟨rfl, hK2⟩
   have D2 := D.keep hK2
   have k2 : Kp w1 w2 := (hK.alloc _).trans hK2
   have d0 : w2.cell? ⟨wr.heap.size, 0, none⟩ = some (.int .i64 n) := D2.cell 0
   cases hb : rulB e k with
   | true =>
    have H : Hid (whyE e = n) := Lib.hid ((vns hk6 hall.out hb).trans HN.out)
    clear hb
    go_wp2_with fail
    go_ret
    exact ⟨by rw [H.out]; rfl, hk1.trans k2⟩
   | false =>
    have H : Hid (∀ j, j < k + 1 → rulB e j = false) := Lib.hid (fun j hj => by
     by_cases hjk : j < k
     ·exact hall.out j hjk
     ·obtain rfl : j = k := by omega
      exact hb)
    clear hb
    go_wp2_with fail
    go_roundw
    case rel => exact ⟨k + 1, by omega, by go_num, H, k2⟩
    case measure => simp [intOf] <;> omega
  ·obtain rfl : k = 6 := by omega
   have H := Lib.hid (vnt hall.out)
   clear hall
   go_wp2_with fail
   go_ret
   exact ⟨by rw [H.out]; rfl, kw⟩
def badKind (a n : Nat) : Bool := if kindAd a = 6 then false else if kindAd a = 1 then decide (n ≠ 0) else true
theorem viV (n : Nat) (h : n ≤ 32) : ((maskN n : Int) != 0) = decide (n ≠ 0) := by
 have h1 : 2 ^ (32 - n) ≤ 4294967296 := vdd n
 by_cases e : n = 0
 ·subst e; decide
 ·have : 2 ^ (32 - n) < 2 ^ 32 := Nat.pow_lt_pow_right (by omega) (by omega)
  have h3 : maskN n ≠ 0 := by unfold maskN; omega
  simp [e, h3]
theorem viW (a : Nat) {n : Nat} (h : n ≤ 32) : badK a (maskN n) = badKind a n := by unfold badK badKind; rw [viV n h]
end

end Go.Proofs.YtgopnfacklmkaaaGreatDoor
