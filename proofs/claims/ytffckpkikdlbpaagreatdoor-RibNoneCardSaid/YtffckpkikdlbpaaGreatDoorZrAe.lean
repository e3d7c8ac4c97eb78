/- Lemmas and contracts for the theorem of this claim: VLen, VWhy. -/
import Derived.Test.YtffckpkikdlbpaaGreatDoorZrAd
set_option linter.unusedSimpArgs false
set_option linter.unusedVariables false
namespace Go.Proofs.YtffckpkikdlbpaaGreatDoor
open Go.RowKit
set_option maxRecDepth 100000 in
theorem len32_0 (w : World) : Calls Tryz.prog 161 #[.int .u32 0] w fun e w' => e = .returned (.int .i64 0) ∧ w = w' := by
  go_enter Tryz.func161, Tryz.ntmps161
  go_wp2_with fail
  go_ret
  exact ⟨by kernel_rfl, rfl⟩
set_option maxRecDepth 100000 in
theorem len32_1 (w : World) : Calls Tryz.prog 161 #[.int .u32 1] w fun e w' => e = .returned (.int .i64 1) ∧ w = w' := by
  go_enter Tryz.func161, Tryz.ntmps161
  go_wp2_with fail
  go_ret
  exact ⟨by kernel_rfl, rfl⟩
set_option maxRecDepth 100000 in
theorem len32_2 (w : World) : Calls Tryz.prog 161 #[.int .u32 3] w fun e w' => e = .returned (.int .i64 2) ∧ w = w' := by
  go_enter Tryz.func161, Tryz.ntmps161
  go_wp2_with fail
  go_ret
  exact ⟨by kernel_rfl, rfl⟩
set_option maxRecDepth 100000 in
theorem len32_3 (w : World) : Calls Tryz.prog 161 #[.int .u32 7] w fun e w' => e = .returned (.int .i64 3) ∧ w = w' := by
  go_enter Tryz.func161, Tryz.ntmps161
  go_wp2_with fail
  go_ret
  exact ⟨by kernel_rfl, rfl⟩
set_option maxRecDepth 100000 in
theorem len32_4 (w : World) : Calls Tryz.prog 161 #[.int .u32 15] w fun e w' => e = .returned (.int .i64 4) ∧ w = w' := by
  go_enter Tryz.func161, Tryz.ntmps161
  go_wp2_with fail
  go_ret
  exact ⟨by kernel_rfl, rfl⟩
set_option maxRecDepth 100000 in
theorem len32_5 (w : World) : Calls Tryz.prog 161 #[.int .u32 31] w fun e w' => e = .returned (.int .i64 5) ∧ w = w' := by
  go_enter Tryz.func161, Tryz.ntmps161
  go_wp2_with fail
  go_ret
  exact ⟨by kernel_rfl, rfl⟩
set_option maxRecDepth 100000 in
theorem len32_6 (w : World) : Calls Tryz.prog 161 #[.int .u32 63] w fun e w' => e = .returned (.int .i64 6) ∧ w = w' := by
  go_enter Tryz.func161, Tryz.ntmps161
  go_wp2_with fail
  go_ret
  exact ⟨by kernel_rfl, rfl⟩
set_option maxRecDepth 100000 in
theorem len32_7 (w : World) : Calls Tryz.prog 161 #[.int .u32 127] w fun e w' => e = .returned (.int .i64 7) ∧ w = w' := by
  go_enter Tryz.func161, Tryz.ntmps161
  go_wp2_with fail
  go_ret
  exact ⟨by kernel_rfl, rfl⟩
set_option maxRecDepth 100000 in
theorem len32_8 (w : World) : Calls Tryz.prog 161 #[.int .u32 255] w fun e w' => e = .returned (.int .i64 8) ∧ w = w' := by
  go_enter Tryz.func161, Tryz.ntmps161
  go_wp2_with fail
  go_ret
  exact ⟨by kernel_rfl, rfl⟩
set_option maxRecDepth 100000 in
theorem len32_9 (w : World) : Calls Tryz.prog 161 #[.int .u32 511] w fun e w' => e = .returned (.int .i64 9) ∧ w = w' := by
  go_enter Tryz.func161, Tryz.ntmps161
  go_wp2_with fail
  go_ret
  exact ⟨by kernel_rfl, rfl⟩
set_option maxRecDepth 100000 in
theorem len32_10 (w : World) : Calls Tryz.prog 161 #[.int .u32 1023] w fun e w' => e = .returned (.int .i64 10) ∧ w = w' := by
  go_enter Tryz.func161, Tryz.ntmps161
  go_wp2_with fail
  go_ret
  exact ⟨by kernel_rfl, rfl⟩
set_option maxRecDepth 100000 in
theorem len32_11 (w : World) : Calls Tryz.prog 161 #[.int .u32 2047] w fun e w' => e = .returned (.int .i64 11) ∧ w = w' := by
  go_enter Tryz.func161, Tryz.ntmps161
  go_wp2_with fail
  go_ret
  exact ⟨by kernel_rfl, rfl⟩
set_option maxRecDepth 100000 in
theorem len32_12 (w : World) : Calls Tryz.prog 161 #[.int .u32 4095] w fun e w' => e = .returned (.int .i64 12) ∧ w = w' := by
  go_enter Tryz.func161, Tryz.ntmps161
  go_wp2_with fail
  go_ret
  exact ⟨by kernel_rfl, rfl⟩
set_option maxRecDepth 100000 in
theorem len32_13 (w : World) : Calls Tryz.prog 161 #[.int .u32 8191] w fun e w' => e = .returned (.int .i64 13) ∧ w = w' := by
  go_enter Tryz.func161, Tryz.ntmps161
  go_wp2_with fail
  go_ret
  exact ⟨by kernel_rfl, rfl⟩
set_option maxRecDepth 100000 in
theorem len32_14 (w : World) : Calls Tryz.prog 161 #[.int .u32 16383] w fun e w' => e = .returned (.int .i64 14) ∧ w = w' := by
  go_enter Tryz.func161, Tryz.ntmps161
  go_wp2_with fail
  go_ret
  exact ⟨by kernel_rfl, rfl⟩
set_option maxRecDepth 100000 in
theorem len32_15 (w : World) : Calls Tryz.prog 161 #[.int .u32 32767] w fun e w' => e = .returned (.int .i64 15) ∧ w = w' := by
  go_enter Tryz.func161, Tryz.ntmps161
  go_wp2_with fail
  go_ret
  exact ⟨by kernel_rfl, rfl⟩
set_option maxRecDepth 100000 in
theorem len32_16 (w : World) : Calls Tryz.prog 161 #[.int .u32 65535] w fun e w' => e = .returned (.int .i64 16) ∧ w = w' := by
  go_enter Tryz.func161, Tryz.ntmps161
  go_wp2_with fail
  go_ret
  exact ⟨by kernel_rfl, rfl⟩
set_option maxRecDepth 100000 in
theorem len32_17 (w : World) : Calls Tryz.prog 161 #[.int .u32 131071] w fun e w' => e = .returned (.int .i64 17) ∧ w = w' := by
  go_enter Tryz.func161, Tryz.ntmps161
  go_wp2_with fail
  go_ret
  exact ⟨by kernel_rfl, rfl⟩
set_option maxRecDepth 100000 in
theorem len32_18 (w : World) : Calls Tryz.prog 161 #[.int .u32 262143] w fun e w' => e = .returned (.int .i64 18) ∧ w = w' := by
  go_enter Tryz.func161, Tryz.ntmps161
  go_wp2_with fail
  go_ret
  exact ⟨by kernel_rfl, rfl⟩
set_option maxRecDepth 100000 in
theorem len32_19 (w : World) : Calls Tryz.prog 161 #[.int .u32 524287] w fun e w' => e = .returned (.int .i64 19) ∧ w = w' := by
  go_enter Tryz.func161, Tryz.ntmps161
  go_wp2_with fail
  go_ret
  exact ⟨by kernel_rfl, rfl⟩
set_option maxRecDepth 100000 in
theorem len32_20 (w : World) : Calls Tryz.prog 161 #[.int .u32 1048575] w fun e w' => e = .returned (.int .i64 20) ∧ w = w' := by
  go_enter Tryz.func161, Tryz.ntmps161
  go_wp2_with fail
  go_ret
  exact ⟨by kernel_rfl, rfl⟩
set_option maxRecDepth 100000 in
theorem len32_21 (w : World) : Calls Tryz.prog 161 #[.int .u32 2097151] w fun e w' => e = .returned (.int .i64 21) ∧ w = w' := by
  go_enter Tryz.func161, Tryz.ntmps161
  go_wp2_with fail
  go_ret
  exact ⟨by kernel_rfl, rfl⟩
set_option maxRecDepth 100000 in
theorem len32_22 (w : World) : Calls Tryz.prog 161 #[.int .u32 4194303] w fun e w' => e = .returned (.int .i64 22) ∧ w = w' := by
  go_enter Tryz.func161, Tryz.ntmps161
  go_wp2_with fail
  go_ret
  exact ⟨by kernel_rfl, rfl⟩
set_option maxRecDepth 100000 in
theorem len32_23 (w : World) : Calls Tryz.prog 161 #[.int .u32 8388607] w fun e w' => e = .returned (.int .i64 23) ∧ w = w' := by
  go_enter Tryz.func161, Tryz.ntmps161
  go_wp2_with fail
  go_ret
  exact ⟨by kernel_rfl, rfl⟩
set_option maxRecDepth 100000 in
theorem len32_24 (w : World) : Calls Tryz.prog 161 #[.int .u32 16777215] w fun e w' => e = .returned (.int .i64 24) ∧ w = w' := by
  go_enter Tryz.func161, Tryz.ntmps161
  go_wp2_with fail
  go_ret
  exact ⟨by kernel_rfl, rfl⟩
set_option maxRecDepth 100000 in
theorem len32_25 (w : World) : Calls Tryz.prog 161 #[.int .u32 33554431] w fun e w' => e = .returned (.int .i64 25) ∧ w = w' := by
  go_enter Tryz.func161, Tryz.ntmps161
  go_wp2_with fail
  go_ret
  exact ⟨by kernel_rfl, rfl⟩
set_option maxRecDepth 100000 in
theorem len32_26 (w : World) : Calls Tryz.prog 161 #[.int .u32 67108863] w fun e w' => e = .returned (.int .i64 26) ∧ w = w' := by
  go_enter Tryz.func161, Tryz.ntmps161
  go_wp2_with fail
  go_ret
  exact ⟨by kernel_rfl, rfl⟩
set_option maxRecDepth 100000 in
theorem len32_27 (w : World) : Calls Tryz.prog 161 #[.int .u32 134217727] w fun e w' => e = .returned (.int .i64 27) ∧ w = w' := by
  go_enter Tryz.func161, Tryz.ntmps161
  go_wp2_with fail
  go_ret
  exact ⟨by kernel_rfl, rfl⟩
set_option maxRecDepth 100000 in
theorem len32_28 (w : World) : Calls Tryz.prog 161 #[.int .u32 268435455] w fun e w' => e = .returned (.int .i64 28) ∧ w = w' := by
  go_enter Tryz.func161, Tryz.ntmps161
  go_wp2_with fail
  go_ret
  exact ⟨by kernel_rfl, rfl⟩
set_option maxRecDepth 100000 in
theorem len32_29 (w : World) : Calls Tryz.prog 161 #[.int .u32 536870911] w fun e w' => e = .returned (.int .i64 29) ∧ w = w' := by
  go_enter Tryz.func161, Tryz.ntmps161
  go_wp2_with fail
  go_ret
  exact ⟨by kernel_rfl, rfl⟩
set_option maxRecDepth 100000 in
theorem len32_30 (w : World) : Calls Tryz.prog 161 #[.int .u32 1073741823] w fun e w' => e = .returned (.int .i64 30) ∧ w = w' := by
  go_enter Tryz.func161, Tryz.ntmps161
  go_wp2_with fail
  go_ret
  exact ⟨by kernel_rfl, rfl⟩
set_option maxRecDepth 100000 in
theorem len32_31 (w : World) : Calls Tryz.prog 161 #[.int .u32 2147483647] w fun e w' => e = .returned (.int .i64 31) ∧ w = w' := by
  go_enter Tryz.func161, Tryz.ntmps161
  go_wp2_with fail
  go_ret
  exact ⟨by kernel_rfl, rfl⟩
set_option maxRecDepth 100000 in
theorem len32_32 (w : World) : Calls Tryz.prog 161 #[.int .u32 4294967295] w fun e w' => e = .returned (.int .i64 32) ∧ w = w' := by
  go_enter Tryz.func161, Tryz.ntmps161
  go_wp2_with fail
  go_ret
  exact ⟨by kernel_rfl, rfl⟩
theorem xor_u32 (x : Nat) (hx : x < 4294967296) : bits .xor .u32 IntKind.u32.max (x : Int) = ((4294967295 - x : Nat) : Int) := by
  have h1 : (BitVec.ofInt 32 (x : Int)).toNat = x := by
    rw [BitVec.ofInt_natCast, BitVec.toNat_ofNat]; exact Nat.mod_eq_of_lt (by omega)
  have h2 : BitVec.ofInt 32 IntKind.u32.max = BitVec.allOnes 32 := by decide
  show IntKind.u32.wrap ((BitVec.ofInt 32 IntKind.u32.max ^^^ BitVec.ofInt 32 (x : Int)).toNat : Int) = _
  rw [h2, BitVec.allOnes_xor, BitVec.toNat_not, h1]
  show ((2 ^ 32 - 1 - x : Nat) : Int) % 4294967296 = _
  omega
theorem not_mask (n : Nat) (h : n ≤ 32) : (4294967295 : Int) - (maskN n : Int) = ((2 ^ (32 - n) - 1 : Nat) : Int) := by
  have h1 := pow_le32 n
  have h2 : 0 < 2 ^ (32 - n) := Nat.two_pow_pos _
  unfold maskN
  omega
theorem len32_any (m : Nat) (w : World) (h : m ≤ 32) : Calls Tryz.prog 161 #[.int .u32 ((2 ^ m - 1 : Nat) : Int)] w fun e w' => e = .returned (.int .i64 m) ∧ w = w' := by
  have hm : m = 0 ∨ m = 1 ∨ m = 2 ∨ m = 3 ∨ m = 4 ∨ m = 5 ∨ m = 6 ∨ m = 7 ∨ m = 8 ∨ m = 9 ∨ m = 10 ∨ m = 11 ∨ m = 12 ∨ m = 13 ∨ m = 14 ∨ m = 15 ∨ m = 16 ∨ m = 17 ∨ m = 18 ∨ m = 19 ∨ m = 20 ∨ m = 21 ∨ m = 22 ∨ m = 23 ∨ m = 24 ∨ m = 25 ∨ m = 26 ∨ m = 27 ∨ m = 28 ∨ m = 29 ∨ m = 30 ∨ m = 31 ∨ m = 32 := by omega
  rcases hm with rfl | rfl | rfl | rfl | rfl | rfl | rfl | rfl | rfl | rfl | rfl | rfl | rfl | rfl | rfl | rfl | rfl | rfl | rfl | rfl | rfl | rfl | rfl | rfl | rfl | rfl | rfl | rfl | rfl | rfl | rfl | rfl | rfl
  · exact len32_0 w
  · exact len32_1 w
  · exact len32_2 w
  · exact len32_3 w
  · exact len32_4 w
  · exact len32_5 w
  · exact len32_6 w
  · exact len32_7 w
  · exact len32_8 w
  · exact len32_9 w
  · exact len32_10 w
  · exact len32_11 w
  · exact len32_12 w
  · exact len32_13 w
  · exact len32_14 w
  · exact len32_15 w
  · exact len32_16 w
  · exact len32_17 w
  · exact len32_18 w
  · exact len32_19 w
  · exact len32_20 w
  · exact len32_21 w
  · exact len32_22 w
  · exact len32_23 w
  · exact len32_24 w
  · exact len32_25 w
  · exact len32_26 w
  · exact len32_27 w
  · exact len32_28 w
  · exact len32_29 w
  · exact len32_30 w
  · exact len32_31 w
  · exact len32_32 w
set_option maxHeartbeats 1000000 in
theorem mask_is (n : Nat) (w : World) (h1 : n ≤ 32) :
    Calls Tryz.prog 168 #[.int .i64 n] w fun e w' => e = .returned (.tuple #[.int .u32 (maskN n), .int .i64 0]) ∧ w = w' := by
  have d0 : decide ((n : Int) < 0) = false := by simp
  have d1 : decide ((32 : Int) < (n : Int)) = false := by simp; omega
  go_enter Tryz.func168, Tryz.ntmps168
  go_wp2_with fail
  refine wp_scope_fwd 0 rfl ?_
  go_wp2_with fail
  refine (mask_any n _ h1).mono ?_
  rintro e w' ⟨rfl, rfl⟩
  go_wp2_with fail
  refine jump_ret ?_
  go_ret2
  exact ⟨rfl, rfl⟩
set_option maxHeartbeats 1000000 in
theorem lz_any (y m : Nat) (w : World) (hm : m ≤ 32) (h : Calls Tryz.prog 161 #[.int .u32 (y : Int)] w fun e w' => e = .returned (.int .i64 m) ∧ w = w') :
    Calls Tryz.prog 213 #[.int .u32 (y : Int)] w fun e w' => e = .returned (.int .i64 (32 - (m : Int))) ∧ w = w' := by
  have H := Lib.hid h; clear h
  go_enter Tryz.func213, Tryz.ntmps213
  go_wp2_with fail
  refine H.out.mono ?_
  rintro e w' ⟨rfl, rfl⟩
  go_wp2_with fail
  go_ret
  exact ⟨rfl, rfl⟩
set_option maxHeartbeats 1000000 in
theorem len_is (n : Nat) (w : World) (h1 : n ≤ 32) :
    Calls Tryz.prog 200 #[.int .u32 (maskN n)] w fun e w' => e = .returned (.tuple #[.int .i64 n, .int .i64 0]) ∧ w = w' := by
  have hx := not_mask n h1
  have hlt := maskN_lt n
  have hxor := xor_u32 (maskN n) hlt
  have e2 : 4294967295 - maskN n = 2 ^ (32 - n) - 1 := by omega
  rw [e2] at hxor
  have Hm := Lib.hid (mask_is n)
  have Hlz := Lib.hid (fun w => len32_any (32 - n) w (by omega))
  obtain ⟨y, hy⟩ : ∃ y, 2 ^ (32 - n) - 1 = y := ⟨_, rfl⟩
  obtain ⟨x, hxx⟩ : ∃ x, maskN n = x := ⟨_, rfl⟩
  rw [hy, hxx] at hxor
  rw [hxx] at Hm hlt
  rw [hy] at Hlz
  have hyb : y < 4294967296 := by have := pow_le32 n; omega
  obtain ⟨m, hm⟩ : ∃ m, 32 - n = m := ⟨_, rfl⟩
  rw [hm] at Hlz
  have hm2 : (32 : Int) - (m : Int) = (n : Int) := by omega
  have Hm2 := Lib.hid hm2
  have hmb : m ≤ 32 := by omega
  rw [hxx]
  clear hx e2 hy hxx hm hm2
  have hne : ((x : Int) != (x : Int)) = false := by simp
  have Hxor := Lib.hid hxor; clear hxor
  go_enter Tryz.func200, Tryz.ntmps200
  go_wp2_with fail
  refine wp_scope_fwd 0 rfl ?_
  go_wp2_with fail
  rw [Hxor.out]
  refine (lz_any y m _ hmb (Hlz.out _)).mono ?_
  rintro e w' ⟨rfl, rfl⟩
  rw [Hm2.out]
  go_wp2_with fail
  refine (Hm.out _ h1).mono ?_
  rintro e w' ⟨rfl, rfl⟩
  go_wp2_with fail
  refine jump_ret ?_
  go_ret2
  exact ⟨rfl, rfl⟩
end Go.Proofs.YtffckpkikdlbpaaGreatDoor

namespace Go.Proofs.YtffckpkikdlbpaaGreatDoor
open Go.RowKit
def badKind (a n : Nat) : Bool := if kindAd a = 6 then false else if kindAd a = 1 then decide (n ≠ 0) else true
theorem kindN_range (a : Nat) : 1 ≤ kindAd a ∧ kindAd a ≤ 6 := by unfold kindAd; split <;> (try split) <;> (try split) <;> (try split) <;> (try split) <;> omega
theorem mask_ne (n : Nat) (h : n ≤ 32) : ((maskN n : Int) != 0) = decide (n ≠ 0) := by
  have h1 : 2 ^ (32 - n) ≤ 4294967296 := pow_le32 n
  by_cases e : n = 0
  · subst e; decide
  · have : 2 ^ (32 - n) < 2 ^ 32 := Nat.pow_lt_pow_right (by omega) (by omega)
    have h3 : maskN n ≠ 0 := by unfold maskN; omega
    simp [e, h3]
set_option maxRecDepth 100000 in
set_option maxHeartbeats 1000000 in
theorem er1_any (a n : Nat) (w : World) (ha : a < 4294967296) (hn : n ≤ 32) (hc : cut a n = a) : Calls Tryz.prog 198 #[.agg #[.int .i64 2, .int .i64 0, .int .u32 a, .int .u32 (maskN n), .int .u32 0, .int .u32 1]] w fun e w' => e = .returned (.bool false) ∧ Kp w w' := by
  clear ha hn hc
  go_enter Tryz.func198, Tryz.ntmps198
  go_wp2_with fail
  go_ret
  exact ⟨rfl, (Kp.refl _).alloc _⟩
set_option maxRecDepth 100000 in
set_option maxHeartbeats 1000000 in
theorem er2_any (a n : Nat) (w : World) (ha : a < 4294967296) (hn : n ≤ 32) (hc : cut a n = a) : Calls Tryz.prog 199 #[.agg #[.int .i64 2, .int .i64 0, .int .u32 a, .int .u32 (maskN n), .int .u32 0, .int .u32 1]] w fun e w' => e = .returned (.bool false) ∧ Kp w w' := by
  clear hc
  go_enter Tryz.func199, Tryz.ntmps199
  go_wp2_with fail
  refine (len_is n _ hn).mono ?_
  rintro e w' ⟨rfl, rfl⟩
  go_wp2_with fail
  go_ret
  exact ⟨rfl, (Kp.refl _).alloc _⟩
set_option maxRecDepth 100000 in
set_option maxHeartbeats 1000000 in
theorem er3_any (a n : Nat) (w : World) (ha : a < 4294967296) (hn : n ≤ 32) (hc : cut a n = a) : Calls Tryz.prog 201 #[.agg #[.int .i64 2, .int .i64 0, .int .u32 a, .int .u32 (maskN n), .int .u32 0, .int .u32 1]] w fun e w' => e = .returned (.bool false) ∧ Kp w w' := by
  have hz := notmask_zero ha hn
  rw [show (!decide (cut a n = a)) = false by simp [hc]] at hz
  clear hc
  go_enter Tryz.func201, Tryz.ntmps201
  go_wp2_with fail
  go_ret
  exact ⟨rfl, (Kp.refl _).alloc _⟩
set_option maxRecDepth 100000 in
set_option maxHeartbeats 1000000 in
theorem er5_any (a n : Nat) (w : World) (ha : a < 4294967296) (hn : n ≤ 32) (hc : cut a n = a) : Calls Tryz.prog 203 #[.agg #[.int .i64 2, .int .i64 0, .int .u32 a, .int .u32 (maskN n), .int .u32 0, .int .u32 1]] w fun e w' => e = .returned (.bool false) ∧ Kp w w' := by
  clear ha hn hc
  go_enter Tryz.func203, Tryz.ntmps203
  go_wp2_with fail
  go_ret
  exact ⟨rfl, (Kp.refl _).alloc _⟩
set_option maxRecDepth 100000 in
set_option maxHeartbeats 1000000 in
theorem er6_any (a n : Nat) (w : World) (ha : a < 4294967296) (hn : n ≤ 32) (hc : cut a n = a) : Calls Tryz.prog 204 #[.agg #[.int .i64 2, .int .i64 0, .int .u32 a, .int .u32 (maskN n), .int .u32 0, .int .u32 1]] w fun e w' => e = .returned (.bool false) ∧ Kp w w' := by
  clear ha hn hc
  go_enter Tryz.func204, Tryz.ntmps204
  go_wp2_with fail
  go_ret
  exact ⟨rfl, (Kp.refl _).alloc _⟩
set_option maxRecDepth 100000 in
set_option maxHeartbeats 1000000 in
theorem er4_any (a n : Nat) (w : World) (ha : a < 4294967296) (hn : n ≤ 32) (hc : cut a n = a) : Calls Tryz.prog 202 #[.agg #[.int .i64 2, .int .i64 0, .int .u32 a, .int .u32 (maskN n), .int .u32 0, .int .u32 1]] w fun e w' => e = .returned (.bool (badKind a n)) ∧ Kp w w' := by
  have hm := mask_ne n hn
  have Hm := Lib.hid hm; clear hm
  obtain ⟨K, hK⟩ : ∃ K, kindAd a = K := ⟨_, rfl⟩
  have hr := kindN_range a
  rw [hK] at hr
  have HK := Lib.hid hK; clear hK hc
  obtain ⟨W, hW, kW, B0⟩ : ∃ W, w.alloc (.cells #[.int .i64 2, .int .i64 0, .int .u32 a, .int .u32 (maskN n), .int .u32 0, .int .u32 1] 192) = W ∧ Kp w W ∧ Blk W w.heap.size 192 #[.int .i64 2, .int .i64 0, .int .u32 a, .int .u32 (maskN n), .int .u32 0, .int .u32 1] := ⟨_, rfl, (Kp.refl _).alloc _, Blk.new w _ _⟩
  have c2 : W.cell? ⟨w.heap.size, 2, none⟩ = some (.int .u32 a) := B0.cell 2
  go_enter Tryz.func202, Tryz.ntmps202
  go_wp2_with fail
  refine (kindAd_any a _ ha).mono ?_
  rintro e w1 ⟨rfl, hK1⟩
  have k1 := kW.trans hK1
  have B1 := B0.keep hK1
  have d3 : w1.cell? ⟨w.heap.size, 3, none⟩ = some (.int .u32 (maskN n)) := B1.cell 3
  rw [HK.out]
  clear hW c2
  have hk6 : K = 1 ∨ K = 2 ∨ K = 3 ∨ K = 4 ∨ K = 5 ∨ K = 6 := by omega
  rcases hk6 with rfl | rfl | rfl | rfl | rfl | rfl
  · have H := Lib.hid (show badKind a n = decide (n ≠ 0) by simp [badKind, HK.out])
    go_wp2_with fail
    go_ret
    exact ⟨by rw [H.out, ← Hm.out]; rfl, k1⟩
  · have H := Lib.hid (show badKind a n = true by simp [badKind, HK.out])
    go_wp2_with fail
    go_ret
    exact ⟨by rw [H.out]; rfl, k1⟩
  · have H := Lib.hid (show badKind a n = true by simp [badKind, HK.out])
    go_wp2_with fail
    go_ret
    exact ⟨by rw [H.out]; rfl, k1⟩
  · have H := Lib.hid (show badKind a n = true by simp [badKind, HK.out])
    go_wp2_with fail
    go_ret
    exact ⟨by rw [H.out]; rfl, k1⟩
  · have H := Lib.hid (show badKind a n = true by simp [badKind, HK.out])
    go_wp2_with fail
    go_ret
    exact ⟨by rw [H.out]; rfl, k1⟩
  · have H := Lib.hid (show badKind a n = false by simp [badKind, HK.out])
    go_wp2_with fail
    go_ret
    exact ⟨by rw [H.out]; rfl, k1⟩
def whyCells : Array Value := #[.int .i64 1, .func (.func 198) #[] #[], .int .i64 2, .func (.func 199) #[] #[], .int .i64 3, .func (.func 201) #[] #[], .int .i64 4, .func (.func 202) #[] #[], .int .i64 5, .func (.func 203) #[] #[], .int .i64 6, .func (.func 204) #[] #[]]
set_option maxHeartbeats 1000000 in
theorem rules_any (w : World) : Calls Tryz.prog 193 #[] w fun e w' => e = .returned (.slice (some ⟨w.heap.size, 0, none⟩) 6 6) ∧ Blk w' w.heap.size 257 whyCells ∧ Kp w w' := by
  go_enter Tryz.func193, Tryz.ntmps193
  go_wp2_with fail
  go_ret
  exact ⟨rfl, Blk.new w _ _, (Kp.refl _).alloc _⟩
def whyN (a n : Nat) : Int := if badKind a n then 4 else 0
set_option maxRecDepth 100000 in
set_option maxHeartbeats 2000000 in
theorem why_any (a n : Nat) (w : World) (ha : a < 4294967296) (hn : n ≤ 32) (hc : cut a n = a) : Calls Tryz.prog 169 #[.agg #[.int .i64 2, .int .i64 0, .int .u32 a, .int .u32 (maskN n), .int .u32 0, .int .u32 1]] w fun e w' => e = .returned (.int .i64 (whyN a n)) ∧ Kp w w' := by
  have Hc := Lib.hid hc; clear hc
  go_enter Tryz.func169, Tryz.ntmps169
  go_wp2_with fail
  refine (rules_any _).mono ?_
  simp only [World.size_alloc]
  rintro e w1 ⟨rfl, hR, hK1⟩
  have hB := (Blk.new w 192 #[.int .i64 2, .int .i64 0, .int .u32 a, .int .u32 (maskN n), .int .u32 0, .int .u32 1]).keep hK1
  have hk1 : Kp w w1 := ((Kp.refl _).alloc _).trans hK1
  clear hK1
  go_wp2_with fail
  go_loopw [7] (fun i wr => ∃ k : Nat, k ≤ 6 ∧ i = .int .i64 k ∧ Hid (3 < k → badKind a n = false) ∧ Kp w1 wr) (fun i _ => 6 - (intOf i).toNat)
  case atStart => exact ⟨0, by omega, rfl, fun h => absurd h (by omega), Kp.refl _⟩
  case round =>
    obtain ⟨k, hk, rfl, hall, hK⟩ := hrel
    have B := hB.keep hK
    have R := hR.keep hK
    have e0 : wr.cell? ⟨w.heap.size, 0, none⟩ = some (.int .i64 2) := B.cell 0
    have e1 : wr.cell? ⟨w.heap.size, 1, none⟩ = some (.int .i64 0) := B.cell 1
    have e2 : wr.cell? ⟨w.heap.size, 2, none⟩ = some (.int .u32 a) := B.cell 2
    have e3 : wr.cell? ⟨w.heap.size, 3, none⟩ = some (.int .u32 (maskN n)) := B.cell 3
    have e4 : wr.cell? ⟨w.heap.size, 4, none⟩ = some (.int .u32 0) := B.cell 4
    have e5 : wr.cell? ⟨w.heap.size, 5, none⟩ = some (.int .u32 1) := B.cell 5
    have kw := hk1.trans hK
    have hlt := B.lt
    have hk2 : k = 0 ∨ k = 1 ∨ k = 2 ∨ k = 3 ∨ k = 4 ∨ k = 5 ∨ k = 6 := by omega
    rcases hk2 with rfl | rfl | rfl | rfl | rfl | rfl | rfl
    · have c0 : wr.cell? ⟨w.heap.size + 1, 0, none⟩ = some (.int .i64 1) := R.cell 0
      have c1 : wr.cell? ⟨w.heap.size + 1, 1, none⟩ = some (.func (.func 198) #[] #[]) := R.cell 1
      have D := Blk.new wr 257 #[.int .i64 1, .func (.func 198) #[] #[]]
      go_wp2_with fail
      refine (er1_any a n _ ha hn Hc.out).mono ?_
      rintro e w2 ⟨rfl, hK2⟩
      have D2 := D.keep hK2
      have k2 : Kp w1 w2 := (hK.alloc _).trans hK2
      have d0 : w2.cell? ⟨wr.heap.size, 0, none⟩ = some (.int .i64 1) := D2.cell 0
      go_wp2_with fail
      go_roundw
      case rel => exact ⟨1, by omega, by go_num, fun h => absurd h (by omega), k2⟩
      case measure => simp [intOf] <;> omega
    · have c0 : wr.cell? ⟨w.heap.size + 1, 2, none⟩ = some (.int .i64 2) := R.cell 2
      have c1 : wr.cell? ⟨w.heap.size + 1, 3, none⟩ = some (.func (.func 199) #[] #[]) := R.cell 3
      have D := Blk.new wr 257 #[.int .i64 2, .func (.func 199) #[] #[]]
      go_wp2_with fail
      refine (er2_any a n _ ha hn Hc.out).mono ?_
      rintro e w2 ⟨rfl, hK2⟩
      have D2 := D.keep hK2
      have k2 : Kp w1 w2 := (hK.alloc _).trans hK2
      have d0 : w2.cell? ⟨wr.heap.size, 0, none⟩ = some (.int .i64 2) := D2.cell 0
      go_wp2_with fail
      go_roundw
      case rel => exact ⟨2, by omega, by go_num, fun h => absurd h (by omega), k2⟩
      case measure => simp [intOf] <;> omega
    · have c0 : wr.cell? ⟨w.heap.size + 1, 4, none⟩ = some (.int .i64 3) := R.cell 4
      have c1 : wr.cell? ⟨w.heap.size + 1, 5, none⟩ = some (.func (.func 201) #[] #[]) := R.cell 5
      have D := Blk.new wr 257 #[.int .i64 3, .func (.func 201) #[] #[]]
      go_wp2_with fail
      refine (er3_any a n _ ha hn Hc.out).mono ?_
      rintro e w2 ⟨rfl, hK2⟩
      have D2 := D.keep hK2
      have k2 : Kp w1 w2 := (hK.alloc _).trans hK2
      have d0 : w2.cell? ⟨wr.heap.size, 0, none⟩ = some (.int .i64 3) := D2.cell 0
      go_wp2_with fail
      go_roundw
      case rel => exact ⟨3, by omega, by go_num, fun h => absurd h (by omega), k2⟩
      case measure => simp [intOf] <;> omega
    · have c0 : wr.cell? ⟨w.heap.size + 1, 6, none⟩ = some (.int .i64 4) := R.cell 6
      have c1 : wr.cell? ⟨w.heap.size + 1, 7, none⟩ = some (.func (.func 202) #[] #[]) := R.cell 7
      have D := Blk.new wr 257 #[.int .i64 4, .func (.func 202) #[] #[]]
      go_wp2_with fail
      refine (er4_any a n _ ha hn Hc.out).mono ?_
      rintro e w2 ⟨rfl, hK2⟩
      have D2 := D.keep hK2
      have k2 : Kp w1 w2 := (hK.alloc _).trans hK2
      have d0 : w2.cell? ⟨wr.heap.size, 0, none⟩ = some (.int .i64 4) := D2.cell 0
      cases hb : badKind a n with
      | true =>
        have H := Lib.hid (show whyN a n = 4 by simp [whyN, hb])
        clear hb
        go_wp2_with fail
        go_ret
        exact ⟨by rw [H.out]; rfl, hk1.trans k2⟩
      | false =>
        have Hb := Lib.hid hb; clear hb
        go_wp2_with fail
        go_roundw
        case rel => exact ⟨4, by omega, by go_num, fun h => Hb.out, k2⟩
        case measure => simp [intOf] <;> omega
    · have c0 : wr.cell? ⟨w.heap.size + 1, 8, none⟩ = some (.int .i64 5) := R.cell 8
      have c1 : wr.cell? ⟨w.heap.size + 1, 9, none⟩ = some (.func (.func 203) #[] #[]) := R.cell 9
      have D := Blk.new wr 257 #[.int .i64 5, .func (.func 203) #[] #[]]
      go_wp2_with fail
      refine (er5_any a n _ ha hn Hc.out).mono ?_
      rintro e w2 ⟨rfl, hK2⟩
      have D2 := D.keep hK2
      have k2 : Kp w1 w2 := (hK.alloc _).trans hK2
      have d0 : w2.cell? ⟨wr.heap.size, 0, none⟩ = some (.int .i64 5) := D2.cell 0
      go_wp2_with fail
      go_roundw
      case rel => exact ⟨5, by omega, by go_num, fun h => hall.out (by omega), k2⟩
      case measure => simp [intOf] <;> omega
    · have c0 : wr.cell? ⟨w.heap.size + 1, 10, none⟩ = some (.int .i64 6) := R.cell 10
      have c1 : wr.cell? ⟨w.heap.size + 1, 11, none⟩ = some (.func (.func 204) #[] #[]) := R.cell 11
      have D := Blk.new wr 257 #[.int .i64 6, .func (.func 204) #[] #[]]
      go_wp2_with fail
      refine (er6_any a n _ ha hn Hc.out).mono ?_
      rintro e w2 ⟨rfl, hK2⟩
      have D2 := D.keep hK2
      have k2 : Kp w1 w2 := (hK.alloc _).trans hK2
      have d0 : w2.cell? ⟨wr.heap.size, 0, none⟩ = some (.int .i64 6) := D2.cell 0
      go_wp2_with fail
      go_roundw
      case rel => exact ⟨6, by omega, by go_num, fun h => hall.out (by omega), k2⟩
      case measure => simp [intOf] <;> omega
    · have H := Lib.hid (show whyN a n = 0 by simp [whyN, hall.out (by omega)])
      clear hall
      go_wp2_with fail
      go_ret
      exact ⟨by rw [H.out]; rfl, kw⟩
end Go.Proofs.YtffckpkikdlbpaaGreatDoor
