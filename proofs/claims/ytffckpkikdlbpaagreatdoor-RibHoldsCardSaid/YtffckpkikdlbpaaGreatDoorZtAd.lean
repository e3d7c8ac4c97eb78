/- Lemmas and contracts for the theorem of this claim: VKdB, VLen. -/
import Derived.Test.YtffckpkikdlbpaaGreatDoorZtAc
set_option linter.unusedSimpArgs false
set_option linter.unusedVariables false
namespace Go.Proofs.YtffckpkikdlbpaaGreatDoor
open Go.RowKit
set_option maxRecDepth 100000 in
set_option maxHeartbeats 2000000 in
theorem kindAd_any (a : Nat) (w : World) (ha : a < 4294967296) : Calls Tryz.prog 183 #[.int .u32 a] w fun e w' => e = .returned (.int .i64 (kindAd a)) ∧ Kp w w' := by
  have Hat := Lib.hid (fun k (hk : k < 6) => kind_at (a := a) hk)
  go_enter Tryz.func183, Tryz.ntmps183
  go_wp2_with fail
  refine (kindRules_any _).mono ?_
  rintro e w1 ⟨rfl, hC, hR, hK1⟩
  go_wp2_with fail
  go_loopw [7] (fun i wr => ∃ k : Nat, k ≤ 5 ∧ i = .int .i64 k ∧ Hid (∀ j, j < k → kindAB j a = false) ∧ Kp w1 wr) (fun i _ => 6 - (intOf i).toNat)
  case atStart => exact ⟨0, by omega, rfl, fun _ h => absurd h (by omega), Kp.refl _⟩
  case round =>
    obtain ⟨k, hk, rfl, hall, hK⟩ := hrel
    have C := hC.keep hK
    have R := hR.keep hK
    have kw := hK1.trans hK
    have hk2 : k = 0 ∨ k = 1 ∨ k = 2 ∨ k = 3 ∨ k = 4 ∨ k = 5 := by omega
    rcases hk2 with rfl | rfl | rfl | rfl | rfl | rfl
    · have c0 : wr.cell? ⟨w.heap.size + 1, 0, none⟩ = some (.int .i64 1) := R.cell 0
      have c1 : wr.cell? ⟨w.heap.size + 1, 1, none⟩ = some (.func (.func 207) #[] #[]) := R.cell 1
      have B := Blk.new wr 263 #[.int .i64 1, .func (.func 207) #[] #[]]
      go_wp2_with fail
      refine (kr2_any a _).mono ?_
      rintro e w2 ⟨rfl, hK2⟩
      have B2 := B.keep hK2
      have k2 : Kp w1 w2 := (hK.alloc _).trans hK2
      have d0 : w2.cell? ⟨wr.heap.size, 0, none⟩ = some (.int .i64 1) := B2.cell 0
      cases hb : kindAB 0 a with
      | true =>
        have H := Lib.hid (Hat.out 0 (by omega) hall.out hb)
        clear hb
        go_wp2_with fail
        go_ret
        exact ⟨by rw [H.out]; rfl, hK1.trans k2⟩
      | false =>
        have Hb := Lib.hid hb; clear hb
        go_wp2_with fail
        go_roundw
        case rel =>
          refine ⟨1, by omega, by go_num, fun j hj => ?_, k2⟩
          by_cases e : j = 0
          · subst e; exact Hb.out
          · exact hall.out j (by omega)
        case measure => simp [intOf] <;> omega
    · have c0 : wr.cell? ⟨w.heap.size + 1, 2, none⟩ = some (.int .i64 2) := R.cell 2
      have c1 : wr.cell? ⟨w.heap.size + 1, 3, none⟩ = some (.func (.func 208) #[] #[.pointer (some ⟨w.heap.size, 0, none⟩)]) := R.cell 3
      have B := Blk.new wr 263 #[.int .i64 2, .func (.func 208) #[] #[.pointer (some ⟨w.heap.size, 0, none⟩)]]
      go_wp2_with fail
      refine (kr3_any a w.heap.size _ ha (C.alloc _)).mono ?_
      rintro e w2 ⟨rfl, hK2⟩
      have B2 := B.keep hK2
      have k2 : Kp w1 w2 := (hK.alloc _).trans hK2
      have d0 : w2.cell? ⟨wr.heap.size, 0, none⟩ = some (.int .i64 2) := B2.cell 0
      cases hb : kindAB 1 a with
      | true =>
        have H := Lib.hid (Hat.out 1 (by omega) hall.out hb)
        clear hb
        go_wp2_with fail
        go_ret
        exact ⟨by rw [H.out]; rfl, hK1.trans k2⟩
      | false =>
        have Hb := Lib.hid hb; clear hb
        go_wp2_with fail
        go_roundw
        case rel =>
          refine ⟨2, by omega, by go_num, fun j hj => ?_, k2⟩
          by_cases e : j = 1
          · subst e; exact Hb.out
          · exact hall.out j (by omega)
        case measure => simp [intOf] <;> omega
    · have c0 : wr.cell? ⟨w.heap.size + 1, 4, none⟩ = some (.int .i64 3) := R.cell 4
      have c1 : wr.cell? ⟨w.heap.size + 1, 5, none⟩ = some (.func (.func 209) #[] #[.pointer (some ⟨w.heap.size, 0, none⟩)]) := R.cell 5
      have B := Blk.new wr 263 #[.int .i64 3, .func (.func 209) #[] #[.pointer (some ⟨w.heap.size, 0, none⟩)]]
      go_wp2_with fail
      refine (kr4_any a w.heap.size _ ha (C.alloc _)).mono ?_
      rintro e w2 ⟨rfl, hK2⟩
      have B2 := B.keep hK2
      have k2 : Kp w1 w2 := (hK.alloc _).trans hK2
      have d0 : w2.cell? ⟨wr.heap.size, 0, none⟩ = some (.int .i64 3) := B2.cell 0
      cases hb : kindAB 2 a with
      | true =>
        have H := Lib.hid (Hat.out 2 (by omega) hall.out hb)
        clear hb
        go_wp2_with fail
        go_ret
        exact ⟨by rw [H.out]; rfl, hK1.trans k2⟩
      | false =>
        have Hb := Lib.hid hb; clear hb
        go_wp2_with fail
        go_roundw
        case rel =>
          refine ⟨3, by omega, by go_num, fun j hj => ?_, k2⟩
          by_cases e : j = 2
          · subst e; exact Hb.out
          · exact hall.out j (by omega)
        case measure => simp [intOf] <;> omega
    · have c0 : wr.cell? ⟨w.heap.size + 1, 6, none⟩ = some (.int .i64 4) := R.cell 6
      have c1 : wr.cell? ⟨w.heap.size + 1, 7, none⟩ = some (.func (.func 210) #[] #[.pointer (some ⟨w.heap.size, 0, none⟩)]) := R.cell 7
      have B := Blk.new wr 263 #[.int .i64 4, .func (.func 210) #[] #[.pointer (some ⟨w.heap.size, 0, none⟩)]]
      go_wp2_with fail
      refine (kr5_any a w.heap.size _ ha (C.alloc _)).mono ?_
      rintro e w2 ⟨rfl, hK2⟩
      have B2 := B.keep hK2
      have k2 : Kp w1 w2 := (hK.alloc _).trans hK2
      have d0 : w2.cell? ⟨wr.heap.size, 0, none⟩ = some (.int .i64 4) := B2.cell 0
      cases hb : kindAB 3 a with
      | true =>
        have H := Lib.hid (Hat.out 3 (by omega) hall.out hb)
        clear hb
        go_wp2_with fail
        go_ret
        exact ⟨by rw [H.out]; rfl, hK1.trans k2⟩
      | false =>
        have Hb := Lib.hid hb; clear hb
        go_wp2_with fail
        go_roundw
        case rel =>
          refine ⟨4, by omega, by go_num, fun j hj => ?_, k2⟩
          by_cases e : j = 3
          · subst e; exact Hb.out
          · exact hall.out j (by omega)
        case measure => simp [intOf] <;> omega
    · have c0 : wr.cell? ⟨w.heap.size + 1, 8, none⟩ = some (.int .i64 5) := R.cell 8
      have c1 : wr.cell? ⟨w.heap.size + 1, 9, none⟩ = some (.func (.func 211) #[] #[.pointer (some ⟨w.heap.size, 0, none⟩)]) := R.cell 9
      have B := Blk.new wr 263 #[.int .i64 5, .func (.func 211) #[] #[.pointer (some ⟨w.heap.size, 0, none⟩)]]
      go_wp2_with fail
      refine (kr6_any a w.heap.size _ ha (C.alloc _)).mono ?_
      rintro e w2 ⟨rfl, hK2⟩
      have B2 := B.keep hK2
      have k2 : Kp w1 w2 := (hK.alloc _).trans hK2
      have d0 : w2.cell? ⟨wr.heap.size, 0, none⟩ = some (.int .i64 5) := B2.cell 0
      cases hb : kindAB 4 a with
      | true =>
        have H := Lib.hid (Hat.out 4 (by omega) hall.out hb)
        clear hb
        go_wp2_with fail
        go_ret
        exact ⟨by rw [H.out]; rfl, hK1.trans k2⟩
      | false =>
        have Hb := Lib.hid hb; clear hb
        go_wp2_with fail
        go_roundw
        case rel =>
          refine ⟨5, by omega, by go_num, fun j hj => ?_, k2⟩
          by_cases e : j = 4
          · subst e; exact Hb.out
          · exact hall.out j (by omega)
        case measure => simp [intOf] <;> omega
    · have c0 : wr.cell? ⟨w.heap.size + 1, 10, none⟩ = some (.int .i64 6) := R.cell 10
      have c1 : wr.cell? ⟨w.heap.size + 1, 11, none⟩ = some (.func (.func 212) #[] #[]) := R.cell 11
      have B := Blk.new wr 263 #[.int .i64 6, .func (.func 212) #[] #[]]
      go_wp2_with fail
      refine (kr7_any a _).mono ?_
      rintro e w2 ⟨rfl, hK2⟩
      have B2 := B.keep hK2
      have k2 : Kp w1 w2 := (hK.alloc _).trans hK2
      have d0 : w2.cell? ⟨wr.heap.size, 0, none⟩ = some (.int .i64 6) := B2.cell 0
      cases hb : kindAB 5 a with
      | true =>
        have H := Lib.hid (Hat.out 5 (by omega) hall.out hb)
        clear hb
        go_wp2_with fail
        go_ret
        exact ⟨by rw [H.out]; rfl, hK1.trans k2⟩
      | false => cases hb
end Go.Proofs.YtffckpkikdlbpaaGreatDoor

namespace Go.Proofs.YtffckpkikdlbpaaGreatDoor
open Go.RowKit
set_option maxRecDepth 100000 in
theorem len32_0 (w : World) : Calls Tryz.prog 161 #[.int .u32 0] w fun e w' => e = .returned (.int .i64 0) ∧ w = w' := by
  go_enter Tryz.func161, Tryz.ntmps161
  go_wp2_with fail
  go_ret
  exact ⟨by kernel_rfl, rfl⟩
set_option maxRecDepth 100000 in
theorem len32_1 (w : World) : Calls Tryz.prog 161 #[.int .u32 1] w fun e w' => e = .returned (.int .i64 1) ∧ w = w' := by
  go_enter Tryz.func161, Tryz.ntmps161
  go_wp2_with fail
  go_ret
  exact ⟨by kernel_rfl, rfl⟩
set_option maxRecDepth 100000 in
theorem len32_2 (w : World) : Calls Tryz.prog 161 #[.int .u32 3] w fun e w' => e = .returned (.int .i64 2) ∧ w = w' := by
  go_enter Tryz.func161, Tryz.ntmps161
  go_wp2_with fail
  go_ret
  exact ⟨by kernel_rfl, rfl⟩
set_option maxRecDepth 100000 in
theorem len32_3 (w : World) : Calls Tryz.prog 161 #[.int .u32 7] w fun e w' => e = .returned (.int .i64 3) ∧ w = w' := by
  go_enter Tryz.func161, Tryz.ntmps161
  go_wp2_with fail
  go_ret
  exact ⟨by kernel_rfl, rfl⟩
set_option maxRecDepth 100000 in
theorem len32_4 (w : World) : Calls Tryz.prog 161 #[.int .u32 15] w fun e w' => e = .returned (.int .i64 4) ∧ w = w' := by
  go_enter Tryz.func161, Tryz.ntmps161
  go_wp2_with fail
  go_ret
  exact ⟨by kernel_rfl, rfl⟩
set_option maxRecDepth 100000 in
theorem len32_5 (w : World) : Calls Tryz.prog 161 #[.int .u32 31] w fun e w' => e = .returned (.int .i64 5) ∧ w = w' := by
  go_enter Tryz.func161, Tryz.ntmps161
  go_wp2_with fail
  go_ret
  exact ⟨by kernel_rfl, rfl⟩
set_option maxRecDepth 100000 in
theorem len32_6 (w : World) : Calls Tryz.prog 161 #[.int .u32 63] w fun e w' => e = .returned (.int .i64 6) ∧ w = w' := by
  go_enter Tryz.func161, Tryz.ntmps161
  go_wp2_with fail
  go_ret
  exact ⟨by kernel_rfl, rfl⟩
set_option maxRecDepth 100000 in
theorem len32_7 (w : World) : Calls Tryz.prog 161 #[.int .u32 127] w fun e w' => e = .returned (.int .i64 7) ∧ w = w' := by
  go_enter Tryz.func161, Tryz.ntmps161
  go_wp2_with fail
  go_ret
  exact ⟨by kernel_rfl, rfl⟩
set_option maxRecDepth 100000 in
theorem len32_8 (w : World) : Calls Tryz.prog 161 #[.int .u32 255] w fun e w' => e = .returned (.int .i64 8) ∧ w = w' := by
  go_enter Tryz.func161, Tryz.ntmps161
  go_wp2_with fail
  go_ret
  exact ⟨by kernel_rfl, rfl⟩
set_option maxRecDepth 100000 in
theorem len32_9 (w : World) : Calls Tryz.prog 161 #[.int .u32 511] w fun e w' => e = .returned (.int .i64 9) ∧ w = w' := by
  go_enter Tryz.func161, Tryz.ntmps161
  go_wp2_with fail
  go_ret
  exact ⟨by kernel_rfl, rfl⟩
set_option maxRecDepth 100000 in
theorem len32_10 (w : World) : Calls Tryz.prog 161 #[.int .u32 1023] w fun e w' => e = .returned (.int .i64 10) ∧ w = w' := by
  go_enter Tryz.func161, Tryz.ntmps161
  go_wp2_with fail
  go_ret
  exact ⟨by kernel_rfl, rfl⟩
set_option maxRecDepth 100000 in
theorem len32_11 (w : World) : Calls Tryz.prog 161 #[.int .u32 2047] w fun e w' => e = .returned (.int .i64 11) ∧ w = w' := by
  go_enter Tryz.func161, Tryz.ntmps161
  go_wp2_with fail
  go_ret
  exact ⟨by kernel_rfl, rfl⟩
set_option maxRecDepth 100000 in
theorem len32_12 (w : World) : Calls Tryz.prog 161 #[.int .u32 4095] w fun e w' => e = .returned (.int .i64 12) ∧ w = w' := by
  go_enter Tryz.func161, Tryz.ntmps161
  go_wp2_with fail
  go_ret
  exact ⟨by kernel_rfl, rfl⟩
set_option maxRecDepth 100000 in
theorem len32_13 (w : World) : Calls Tryz.prog 161 #[.int .u32 8191] w fun e w' => e = .returned (.int .i64 13) ∧ w = w' := by
  go_enter Tryz.func161, Tryz.ntmps161
  go_wp2_with fail
  go_ret
  exact ⟨by kernel_rfl, rfl⟩
set_option maxRecDepth 100000 in
theorem len32_14 (w : World) : Calls Tryz.prog 161 #[.int .u32 16383] w fun e w' => e = .returned (.int .i64 14) ∧ w = w' := by
  go_enter Tryz.func161, Tryz.ntmps161
  go_wp2_with fail
  go_ret
  exact ⟨by kernel_rfl, rfl⟩
set_option maxRecDepth 100000 in
theorem len32_15 (w : World) : Calls Tryz.prog 161 #[.int .u32 32767] w fun e w' => e = .returned (.int .i64 15) ∧ w = w' := by
  go_enter Tryz.func161, Tryz.ntmps161
  go_wp2_with fail
  go_ret
  exact ⟨by kernel_rfl, rfl⟩
set_option maxRecDepth 100000 in
theorem len32_16 (w : World) : Calls Tryz.prog 161 #[.int .u32 65535] w fun e w' => e = .returned (.int .i64 16) ∧ w = w' := by
  go_enter Tryz.func161, Tryz.ntmps161
  go_wp2_with fail
  go_ret
  exact ⟨by kernel_rfl, rfl⟩
set_option maxRecDepth 100000 in
theorem len32_17 (w : World) : Calls Tryz.prog 161 #[.int .u32 131071] w fun e w' => e = .returned (.int .i64 17) ∧ w = w' := by
  go_enter Tryz.func161, Tryz.ntmps161
  go_wp2_with fail
  go_ret
  exact ⟨by kernel_rfl, rfl⟩
set_option maxRecDepth 100000 in
theorem len32_18 (w : World) : Calls Tryz.prog 161 #[.int .u32 262143] w fun e w' => e = .returned (.int .i64 18) ∧ w = w' := by
  go_enter Tryz.func161, Tryz.ntmps161
  go_wp2_with fail
  go_ret
  exact ⟨by kernel_rfl, rfl⟩
set_option maxRecDepth 100000 in
theorem len32_19 (w : World) : Calls Tryz.prog 161 #[.int .u32 524287] w fun e w' => e = .returned (.int .i64 19) ∧ w = w' := by
  go_enter Tryz.func161, Tryz.ntmps161
  go_wp2_with fail
  go_ret
  exact ⟨by kernel_rfl, rfl⟩
set_option maxRecDepth 100000 in
theorem len32_20 (w : World) : Calls Tryz.prog 161 #[.int .u32 1048575] w fun e w' => e = .returned (.int .i64 20) ∧ w = w' := by
  go_enter Tryz.func161, Tryz.ntmps161
  go_wp2_with fail
  go_ret
  exact ⟨by kernel_rfl, rfl⟩
set_option maxRecDepth 100000 in
theorem len32_21 (w : World) : Calls Tryz.prog 161 #[.int .u32 2097151] w fun e w' => e = .returned (.int .i64 21) ∧ w = w' := by
  go_enter Tryz.func161, Tryz.ntmps161
  go_wp2_with fail
  go_ret
  exact ⟨by kernel_rfl, rfl⟩
set_option maxRecDepth 100000 in
theorem len32_22 (w : World) : Calls Tryz.prog 161 #[.int .u32 4194303] w fun e w' => e = .returned (.int .i64 22) ∧ w = w' := by
  go_enter Tryz.func161, Tryz.ntmps161
  go_wp2_with fail
  go_ret
  exact ⟨by kernel_rfl, rfl⟩
set_option maxRecDepth 100000 in
theorem len32_23 (w : World) : Calls Tryz.prog 161 #[.int .u32 8388607] w fun e w' => e = .returned (.int .i64 23) ∧ w = w' := by
  go_enter Tryz.func161, Tryz.ntmps161
  go_wp2_with fail
  go_ret
  exact ⟨by kernel_rfl, rfl⟩
set_option maxRecDepth 100000 in
theorem len32_24 (w : World) : Calls Tryz.prog 161 #[.int .u32 16777215] w fun e w' => e = .returned (.int .i64 24) ∧ w = w' := by
  go_enter Tryz.func161, Tryz.ntmps161
  go_wp2_with fail
  go_ret
  exact ⟨by kernel_rfl, rfl⟩
set_option maxRecDepth 100000 in
theorem len32_25 (w : World) : Calls Tryz.prog 161 #[.int .u32 33554431] w fun e w' => e = .returned (.int .i64 25) ∧ w = w' := by
  go_enter Tryz.func161, Tryz.ntmps161
  go_wp2_with fail
  go_ret
  exact ⟨by kernel_rfl, rfl⟩
set_option maxRecDepth 100000 in
theorem len32_26 (w : World) : Calls Tryz.prog 161 #[.int .u32 67108863] w fun e w' => e = .returned (.int .i64 26) ∧ w = w' := by
  go_enter Tryz.func161, Tryz.ntmps161
  go_wp2_with fail
  go_ret
  exact ⟨by kernel_rfl, rfl⟩
set_option maxRecDepth 100000 in
theorem len32_27 (w : World) : Calls Tryz.prog 161 #[.int .u32 134217727] w fun e w' => e = .returned (.int .i64 27) ∧ w = w' := by
  go_enter Tryz.func161, Tryz.ntmps161
  go_wp2_with fail
  go_ret
  exact ⟨by kernel_rfl, rfl⟩
set_option maxRecDepth 100000 in
theorem len32_28 (w : World) : Calls Tryz.prog 161 #[.int .u32 268435455] w fun e w' => e = .returned (.int .i64 28) ∧ w = w' := by
  go_enter Tryz.func161, Tryz.ntmps161
  go_wp2_with fail
  go_ret
  exact ⟨by kernel_rfl, rfl⟩
set_option maxRecDepth 100000 in
theorem len32_29 (w : World) : Calls Tryz.prog 161 #[.int .u32 536870911] w fun e w' => e = .returned (.int .i64 29) ∧ w = w' := by
  go_enter Tryz.func161, Tryz.ntmps161
  go_wp2_with fail
  go_ret
  exact ⟨by kernel_rfl, rfl⟩
set_option maxRecDepth 100000 in
theorem len32_30 (w : World) : Calls Tryz.prog 161 #[.int .u32 1073741823] w fun e w' => e = .returned (.int .i64 30) ∧ w = w' := by
  go_enter Tryz.func161, Tryz.ntmps161
  go_wp2_with fail
  go_ret
  exact ⟨by kernel_rfl, rfl⟩
set_option maxRecDepth 100000 in
theorem len32_31 (w : World) : Calls Tryz.prog 161 #[.int .u32 2147483647] w fun e w' => e = .returned (.int .i64 31) ∧ w = w' := by
  go_enter Tryz.func161, Tryz.ntmps161
  go_wp2_with fail
  go_ret
  exact ⟨by kernel_rfl, rfl⟩
set_option maxRecDepth 100000 in
theorem len32_32 (w : World) : Calls Tryz.prog 161 #[.int .u32 4294967295] w fun e w' => e = .returned (.int .i64 32) ∧ w = w' := by
  go_enter Tryz.func161, Tryz.ntmps161
  go_wp2_with fail
  go_ret
  exact ⟨by kernel_rfl, rfl⟩
theorem xor_u32 (x : Nat) (hx : x < 4294967296) : bits .xor .u32 IntKind.u32.max (x : Int) = ((4294967295 - x : Nat) : Int) := by
  have h1 : (BitVec.ofInt 32 (x : Int)).toNat = x := by
    rw [BitVec.ofInt_natCast, BitVec.toNat_ofNat]; exact Nat.mod_eq_of_lt (by omega)
  have h2 : BitVec.ofInt 32 IntKind.u32.max = BitVec.allOnes 32 := by decide
  show IntKind.u32.wrap ((BitVec.ofInt 32 IntKind.u32.max ^^^ BitVec.ofInt 32 (x : Int)).toNat : Int) = _
  rw [h2, BitVec.allOnes_xor, BitVec.toNat_not, h1]
  show ((2 ^ 32 - 1 - x : Nat) : Int) % 4294967296 = _
  omega
theorem not_mask (n : Nat) (h : n ≤ 32) : (4294967295 : Int) - (maskN n : Int) = ((2 ^ (32 - n) - 1 : Nat) : Int) := by
  have h1 := pow_le32 n
  have h2 : 0 < 2 ^ (32 - n) := Nat.two_pow_pos _
  unfold maskN
  omega
theorem len32_any (m : Nat) (w : World) (h : m ≤ 32) : Calls Tryz.prog 161 #[.int .u32 ((2 ^ m - 1 : Nat) : Int)] w fun e w' => e = .returned (.int .i64 m) ∧ w = w' := by
  have hm : m = 0 ∨ m = 1 ∨ m = 2 ∨ m = 3 ∨ m = 4 ∨ m = 5 ∨ m = 6 ∨ m = 7 ∨ m = 8 ∨ m = 9 ∨ m = 10 ∨ m = 11 ∨ m = 12 ∨ m = 13 ∨ m = 14 ∨ m = 15 ∨ m = 16 ∨ m = 17 ∨ m = 18 ∨ m = 19 ∨ m = 20 ∨ m = 21 ∨ m = 22 ∨ m = 23 ∨ m = 24 ∨ m = 25 ∨ m = 26 ∨ m = 27 ∨ m = 28 ∨ m = 29 ∨ m = 30 ∨ m = 31 ∨ m = 32 := by omega
  rcases hm with rfl | rfl | rfl | rfl | rfl | rfl | rfl | rfl | rfl | rfl | rfl | rfl | rfl | rfl | rfl | rfl | rfl | rfl | rfl | rfl | rfl | rfl | rfl | rfl | rfl | rfl | rfl | rfl | rfl | rfl | rfl | rfl | rfl
  · exact len32_0 w
  · exact len32_1 w
  · exact len32_2 w
  · exact len32_3 w
  · exact len32_4 w
  · exact len32_5 w
  · exact len32_6 w
  · exact len32_7 w
  · exact len32_8 w
  · exact len32_9 w
  · exact len32_10 w
  · exact len32_11 w
  · exact len32_12 w
  · exact len32_13 w
  · exact len32_14 w
  · exact len32_15 w
  · exact len32_16 w
  · exact len32_17 w
  · exact len32_18 w
  · exact len32_19 w
  · exact len32_20 w
  · exact len32_21 w
  · exact len32_22 w
  · exact len32_23 w
  · exact len32_24 w
  · exact len32_25 w
  · exact len32_26 w
  · exact len32_27 w
  · exact len32_28 w
  · exact len32_29 w
  · exact len32_30 w
  · exact len32_31 w
  · exact len32_32 w
set_option maxHeartbeats 1000000 in
theorem mask_is (n : Nat) (w : World) (h1 : n ≤ 32) :
    Calls Tryz.prog 168 #[.int .i64 n] w fun e w' => e = .returned (.tuple #[.int .u32 (maskN n), .int .i64 0]) ∧ w = w' := by
  have d0 : decide ((n : Int) < 0) = false := by simp
  have d1 : decide ((32 : Int) < (n : Int)) = false := by simp; omega
  go_enter Tryz.func168, Tryz.ntmps168
  go_wp2_with fail
  refine wp_scope_fwd 0 rfl ?_
  go_wp2_with fail
  refine (mask_any n _ h1).mono ?_
  rintro e w' ⟨rfl, rfl⟩
  go_wp2_with fail
  refine jump_ret ?_
  go_ret2
  exact ⟨rfl, rfl⟩
set_option maxHeartbeats 1000000 in
theorem lz_any (y m : Nat) (w : World) (hm : m ≤ 32) (h : Calls Tryz.prog 161 #[.int .u32 (y : Int)] w fun e w' => e = .returned (.int .i64 m) ∧ w = w') :
    Calls Tryz.prog 213 #[.int .u32 (y : Int)] w fun e w' => e = .returned (.int .i64 (32 - (m : Int))) ∧ w = w' := by
  have H := Lib.hid h; clear h
  go_enter Tryz.func213, Tryz.ntmps213
  go_wp2_with fail
  refine H.out.mono ?_
  rintro e w' ⟨rfl, rfl⟩
  go_wp2_with fail
  go_ret
  exact ⟨rfl, rfl⟩
set_option maxHeartbeats 1000000 in
theorem len_is (n : Nat) (w : World) (h1 : n ≤ 32) :
    Calls Tryz.prog 200 #[.int .u32 (maskN n)] w fun e w' => e = .returned (.tuple #[.int .i64 n, .int .i64 0]) ∧ w = w' := by
  have hx := not_mask n h1
  have hlt := maskN_lt n
  have hxor := xor_u32 (maskN n) hlt
  have e2 : 4294967295 - maskN n = 2 ^ (32 - n) - 1 := by omega
  rw [e2] at hxor
  have Hm := Lib.hid (mask_is n)
  have Hlz := Lib.hid (fun w => len32_any (32 - n) w (by omega))
  obtain ⟨y, hy⟩ : ∃ y, 2 ^ (32 - n) - 1 = y := ⟨_, rfl⟩
  obtain ⟨x, hxx⟩ : ∃ x, maskN n = x := ⟨_, rfl⟩
  rw [hy, hxx] at hxor
  rw [hxx] at Hm hlt
  rw [hy] at Hlz
  have hyb : y < 4294967296 := by have := pow_le32 n; omega
  obtain ⟨m, hm⟩ : ∃ m, 32 - n = m := ⟨_, rfl⟩
  rw [hm] at Hlz
  have hm2 : (32 : Int) - (m : Int) = (n : Int) := by omega
  have Hm2 := Lib.hid hm2
  have hmb : m ≤ 32 := by omega
  rw [hxx]
  clear hx e2 hy hxx hm hm2
  have hne : ((x : Int) != (x : Int)) = false := by simp
  have Hxor := Lib.hid hxor; clear hxor
  go_enter Tryz.func200, Tryz.ntmps200
  go_wp2_with fail
  refine wp_scope_fwd 0 rfl ?_
  go_wp2_with fail
  rw [Hxor.out]
  refine (lz_any y m _ hmb (Hlz.out _)).mono ?_
  rintro e w' ⟨rfl, rfl⟩
  rw [Hm2.out]
  go_wp2_with fail
  refine (Hm.out _ h1).mono ?_
  rintro e w' ⟨rfl, rfl⟩
  go_wp2_with fail
  refine jump_ret ?_
  go_ret2
  exact ⟨rfl, rfl⟩
end Go.Proofs.YtffckpkikdlbpaaGreatDoor
