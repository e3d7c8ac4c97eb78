/- Lemmas and contracts for the theorem of this claim: VWhy. -/
import Derived.Test.YtffckpkikdlbpaaGreatDoorZtAd
set_option linter.unusedSimpArgs false
set_option linter.unusedVariables false
namespace Go.Proofs.YtffckpkikdlbpaaGreatDoor
open Go.RowKit
def badKind (a n : Nat) : Bool := if kindAd a = 6 then false else if kindAd a = 1 then decide (n ≠ 0) else true
theorem kindN_range (a : Nat) : 1 ≤ kindAd a ∧ kindAd a ≤ 6 := by unfold kindAd; split <;> (try split) <;> (try split) <;> (try split) <;> (try split) <;> omega
theorem mask_ne (n : Nat) (h : n ≤ 32) : ((maskN n : Int) != 0) = decide (n ≠ 0) := by
  have h1 : 2 ^ (32 - n) ≤ 4294967296 := pow_le32 n
  by_cases e : n = 0
  · subst e; decide
  · have : 2 ^ (32 - n) < 2 ^ 32 := Nat.pow_lt_pow_right (by omega) (by omega)
    have h3 : maskN n ≠ 0 := by unfold maskN; omega
    simp [e, h3]
set_option maxRecDepth 100000 in
set_option maxHeartbeats 1000000 in
theorem er1_any (a n : Nat) (w : World) (ha : a < 4294967296) (hn : n ≤ 32) (hc : cut a n = a) : Calls Tryz.prog 198 #[.agg #[.int .i64 2, .int .i64 0, .int .u32 a, .int .u32 (maskN n), .int .u32 0, .int .u32 1]] w fun e w' => e = .returned (.bool false) ∧ Kp w w' := by
  clear ha hn hc
  go_enter Tryz.func198, Tryz.ntmps198
  go_wp2_with fail
  go_ret
  exact ⟨rfl, (Kp.refl _).alloc _⟩
set_option maxRecDepth 100000 in
set_option maxHeartbeats 1000000 in
theorem er2_any (a n : Nat) (w : World) (ha : a < 4294967296) (hn : n ≤ 32) (hc : cut a n = a) : Calls Tryz.prog 199 #[.agg #[.int .i64 2, .int .i64 0, .int .u32 a, .int .u32 (maskN n), .int .u32 0, .int .u32 1]] w fun e w' => e = .returned (.bool false) ∧ Kp w w' := by
  clear hc
  go_enter Tryz.func199, Tryz.ntmps199
  go_wp2_with fail
  refine (len_is n _ hn).mono ?_
  rintro e w' ⟨rfl, rfl⟩
  go_wp2_with fail
  go_ret
  exact ⟨rfl, (Kp.refl _).alloc _⟩
set_option maxRecDepth 100000 in
set_option maxHeartbeats 1000000 in
theorem er3_any (a n : Nat) (w : World) (ha : a < 4294967296) (hn : n ≤ 32) (hc : cut a n = a) : Calls Tryz.prog 201 #[.agg #[.int .i64 2, .int .i64 0, .int .u32 a, .int .u32 (maskN n), .int .u32 0, .int .u32 1]] w fun e w' => e = .returned (.bool false) ∧ Kp w w' := by
  have hz := notmask_zero ha hn
  rw [show (!decide (cut a n = a)) = false by simp [hc]] at hz
  clear hc
  go_enter Tryz.func201, Tryz.ntmps201
  go_wp2_with fail
  go_ret
  exact ⟨rfl, (Kp.refl _).alloc _⟩
set_option maxRecDepth 100000 in
set_option maxHeartbeats 1000000 in
theorem er5_any (a n : Nat) (w : World) (ha : a < 4294967296) (hn : n ≤ 32) (hc : cut a n = a) : Calls Tryz.prog 203 #[.agg #[.int .i64 2, .int .i64 0, .int .u32 a, .int .u32 (maskN n), .int .u32 0, .int .u32 1]] w fun e w' => e = .returned (.bool false) ∧ Kp w w' := by
  clear ha hn hc
  go_enter Tryz.func203, Tryz.ntmps203
  go_wp2_with fail
  go_ret
  exact ⟨rfl, (Kp.refl _).alloc _⟩
set_option maxRecDepth 100000 in
set_option maxHeartbeats 1000000 in
theorem er6_any (a n : Nat) (w : World) (ha : a < 4294967296) (hn : n ≤ 32) (hc : cut a n = a) : Calls Tryz.prog 204 #[.agg #[.int .i64 2, .int .i64 0, .int .u32 a, .int .u32 (maskN n), .int .u32 0, .int .u32 1]] w fun e w' => e = .returned (.bool false) ∧ Kp w w' := by
  clear ha hn hc
  go_enter Tryz.func204, Tryz.ntmps204
  go_wp2_with fail
  go_ret
  exact ⟨rfl, (Kp.refl _).alloc _⟩
set_option maxRecDepth 100000 in
set_option maxHeartbeats 1000000 in
theorem er4_any (a n : Nat) (w : World) (ha : a < 4294967296) (hn : n ≤ 32) (hc : cut a n = a) : Calls Tryz.prog 202 #[.agg #[.int .i64 2, .int .i64 0, .int .u32 a, .int .u32 (maskN n), .int .u32 0, .int .u32 1]] w fun e w' => e = .returned (.bool (badKind a n)) ∧ Kp w w' := by
  have hm := mask_ne n hn
  have Hm := Lib.hid hm; clear hm
  obtain ⟨K, hK⟩ : ∃ K, kindAd a = K := ⟨_, rfl⟩
  have hr := kindN_range a
  rw [hK] at hr
  have HK := Lib.hid hK; clear hK hc
  obtain ⟨W, hW, kW, B0⟩ : ∃ W, w.alloc (.cells #[.int .i64 2, .int .i64 0, .int .u32 a, .int .u32 (maskN n), .int .u32 0, .int .u32 1] 192) = W ∧ Kp w W ∧ Blk W w.heap.size 192 #[.int .i64 2, .int .i64 0, .int .u32 a, .int .u32 (maskN n), .int .u32 0, .int .u32 1] := ⟨_, rfl, (Kp.refl _).alloc _, Blk.new w _ _⟩
  have c2 : W.cell? ⟨w.heap.size, 2, none⟩ = some (.int .u32 a) := B0.cell 2
  go_enter Tryz.func202, Tryz.ntmps202
  go_wp2_with fail
  refine (kindAd_any a _ ha).mono ?_
  rintro e w1 ⟨rfl, hK1⟩
  have k1 := kW.trans hK1
  have B1 := B0.keep hK1
  have d3 : w1.cell? ⟨w.heap.size, 3, none⟩ = some (.int .u32 (maskN n)) := B1.cell 3
  rw [HK.out]
  clear hW c2
  have hk6 : K = 1 ∨ K = 2 ∨ K = 3 ∨ K = 4 ∨ K = 5 ∨ K = 6 := by omega
  rcases hk6 with rfl | rfl | rfl | rfl | rfl | rfl
  · have H := Lib.hid (show badKind a n = decide (n ≠ 0) by simp [badKind, HK.out])
    go_wp2_with fail
    go_ret
    exact ⟨by rw [H.out, ← Hm.out]; rfl, k1⟩
  · have H := Lib.hid (show badKind a n = true by simp [badKind, HK.out])
    go_wp2_with fail
    go_ret
    exact ⟨by rw [H.out]; rfl, k1⟩
  · have H := Lib.hid (show badKind a n = true by simp [badKind, HK.out])
    go_wp2_with fail
    go_ret
    exact ⟨by rw [H.out]; rfl, k1⟩
  · have H := Lib.hid (show badKind a n = true by simp [badKind, HK.out])
    go_wp2_with fail
    go_ret
    exact ⟨by rw [H.out]; rfl, k1⟩
  · have H := Lib.hid (show badKind a n = true by simp [badKind, HK.out])
    go_wp2_with fail
    go_ret
    exact ⟨by rw [H.out]; rfl, k1⟩
  · have H := Lib.hid (show badKind a n = false by simp [badKind, HK.out])
    go_wp2_with fail
    go_ret
    exact ⟨by rw [H.out]; rfl, k1⟩
def whyCells : Array Value := #[.int .i64 1, .func (.func 198) #[] #[], .int .i64 2, .func (.func 199) #[] #[], .int .i64 3, .func (.func 201) #[] #[], .int .i64 4, .func (.func 202) #[] #[], .int .i64 5, .func (.func 203) #[] #[], .int .i64 6, .func (.func 204) #[] #[]]
set_option maxHeartbeats 1000000 in
theorem rules_any (w : World) : Calls Tryz.prog 193 #[] w fun e w' => e = .returned (.slice (some ⟨w.heap.size, 0, none⟩) 6 6) ∧ Blk w' w.heap.size 257 whyCells ∧ Kp w w' := by
  go_enter Tryz.func193, Tryz.ntmps193
  go_wp2_with fail
  go_ret
  exact ⟨rfl, Blk.new w _ _, (Kp.refl _).alloc _⟩
def whyN (a n : Nat) : Int := if badKind a n then 4 else 0
set_option maxRecDepth 100000 in
set_option maxHeartbeats 2000000 in
theorem why_any (a n : Nat) (w : World) (ha : a < 4294967296) (hn : n ≤ 32) (hc : cut a n = a) : Calls Tryz.prog 169 #[.agg #[.int .i64 2, .int .i64 0, .int .u32 a, .int .u32 (maskN n), .int .u32 0, .int .u32 1]] w fun e w' => e = .returned (.int .i64 (whyN a n)) ∧ Kp w w' := by
  have Hc := Lib.hid hc; clear hc
  go_enter Tryz.func169, Tryz.ntmps169
  go_wp2_with fail
  refine (rules_any _).mono ?_
  simp only [World.size_alloc]
  rintro e w1 ⟨rfl, hR, hK1⟩
  have hB := (Blk.new w 192 #[.int .i64 2, .int .i64 0, .int .u32 a, .int .u32 (maskN n), .int .u32 0, .int .u32 1]).keep hK1
  have hk1 : Kp w w1 := ((Kp.refl _).alloc _).trans hK1
  clear hK1
  go_wp2_with fail
  go_loopw [7] (fun i wr => ∃ k : Nat, k ≤ 6 ∧ i = .int .i64 k ∧ Hid (3 < k → badKind a n = false) ∧ Kp w1 wr) (fun i _ => 6 - (intOf i).toNat)
  case atStart => exact ⟨0, by omega, rfl, fun h => absurd h (by omega), Kp.refl _⟩
  case round =>
    obtain ⟨k, hk, rfl, hall, hK⟩ := hrel
    have B := hB.keep hK
    have R := hR.keep hK
    have e0 : wr.cell? ⟨w.heap.size, 0, none⟩ = some (.int .i64 2) := B.cell 0
    have e1 : wr.cell? ⟨w.heap.size, 1, none⟩ = some (.int .i64 0) := B.cell 1
    have e2 : wr.cell? ⟨w.heap.size, 2, none⟩ = some (.int .u32 a) := B.cell 2
    have e3 : wr.cell? ⟨w.heap.size, 3, none⟩ = some (.int .u32 (maskN n)) := B.cell 3
    have e4 : wr.cell? ⟨w.heap.size, 4, none⟩ = some (.int .u32 0) := B.cell 4
    have e5 : wr.cell? ⟨w.heap.size, 5, none⟩ = some (.int .u32 1) := B.cell 5
    have kw := hk1.trans hK
    have hlt := B.lt
    have hk2 : k = 0 ∨ k = 1 ∨ k = 2 ∨ k = 3 ∨ k = 4 ∨ k = 5 ∨ k = 6 := by omega
    rcases hk2 with rfl | rfl | rfl | rfl | rfl | rfl | rfl
    · have c0 : wr.cell? ⟨w.heap.size + 1, 0, none⟩ = some (.int .i64 1) := R.cell 0
      have c1 : wr.cell? ⟨w.heap.size + 1, 1, none⟩ = some (.func (.func 198) #[] #[]) := R.cell 1
      have D := Blk.new wr 257 #[.int .i64 1, .func (.func 198) #[] #[]]
      go_wp2_with fail
      refine (er1_any a n _ ha hn Hc.out).mono ?_
      rintro e w2 ⟨rfl, hK2⟩
      have D2 := D.keep hK2
      have k2 : Kp w1 w2 := (hK.alloc _).trans hK2
      have d0 : w2.cell? ⟨wr.heap.size, 0, none⟩ = some (.int .i64 1) := D2.cell 0
      go_wp2_with fail
      go_roundw
      case rel => exact ⟨1, by omega, by go_num, fun h => absurd h (by omega), k2⟩
      case measure => simp [intOf] <;> omega
    · have c0 : wr.cell? ⟨w.heap.size + 1, 2, none⟩ = some (.int .i64 2) := R.cell 2
      have c1 : wr.cell? ⟨w.heap.size + 1, 3, none⟩ = some (.func (.func 199) #[] #[]) := R.cell 3
      have D := Blk.new wr 257 #[.int .i64 2, .func (.func 199) #[] #[]]
      go_wp2_with fail
      refine (er2_any a n _ ha hn Hc.out).mono ?_
      rintro e w2 ⟨rfl, hK2⟩
      have D2 := D.keep hK2
      have k2 : Kp w1 w2 := (hK.alloc _).trans hK2
      have d0 : w2.cell? ⟨wr.heap.size, 0, none⟩ = some (.int .i64 2) := D2.cell 0
      go_wp2_with fail
      go_roundw
      case rel => exact ⟨2, by omega, by go_num, fun h => absurd h (by omega), k2⟩
      case measure => simp [intOf] <;> omega
    · have c0 : wr.cell? ⟨w.heap.size + 1, 4, none⟩ = some (.int .i64 3) := R.cell 4
      have c1 : wr.cell? ⟨w.heap.size + 1, 5, none⟩ = some (.func (.func 201) #[] #[]) := R.cell 5
      have D := Blk.new wr 257 #[.int .i64 3, .func (.func 201) #[] #[]]
      go_wp2_with fail
      refine (er3_any a n _ ha hn Hc.out).mono ?_
      rintro e w2 ⟨rfl, hK2⟩
      have D2 := D.keep hK2
      have k2 : Kp w1 w2 := (hK.alloc _).trans hK2
      have d0 : w2.cell? ⟨wr.heap.size, 0, none⟩ = some (.int .i64 3) := D2.cell 0
      go_wp2_with fail
      go_roundw
      case rel => exact ⟨3, by omega, by go_num, fun h => absurd h (by omega), k2⟩
      case measure => simp [intOf] <;> omega
    · have c0 : wr.cell? ⟨w.heap.size + 1, 6, none⟩ = some (.int .i64 4) := R.cell 6
      have c1 : wr.cell? ⟨w.heap.size + 1, 7, none⟩ = some (.func (.func 202) #[] #[]) := R.cell 7
      have D := Blk.new wr 257 #[.int .i64 4, .func (.func 202) #[] #[]]
      go_wp2_with fail
      refine (er4_any a n _ ha hn Hc.out).mono ?_
      rintro e w2 ⟨rfl, hK2⟩
      have D2 := D.keep hK2
      have k2 : Kp w1 w2 := (hK.alloc _).trans hK2
      have d0 : w2.cell? ⟨wr.heap.size, 0, none⟩ = some (.int .i64 4) := D2.cell 0
      cases hb : badKind a n with
      | true =>
        have H := Lib.hid (show whyN a n = 4 by simp [whyN, hb])
        clear hb
        go_wp2_with fail
        go_ret
        exact ⟨by rw [H.out]; rfl, hk1.trans k2⟩
      | false =>
        have Hb := Lib.hid hb; clear hb
        go_wp2_with fail
        go_roundw
        case rel => exact ⟨4, by omega, by go_num, fun h => Hb.out, k2⟩
        case measure => simp [intOf] <;> omega
    · have c0 : wr.cell? ⟨w.heap.size + 1, 8, none⟩ = some (.int .i64 5) := R.cell 8
      have c1 : wr.cell? ⟨w.heap.size + 1, 9, none⟩ = some (.func (.func 203) #[] #[]) := R.cell 9
      have D := Blk.new wr 257 #[.int .i64 5, .func (.func 203) #[] #[]]
      go_wp2_with fail
      refine (er5_any a n _ ha hn Hc.out).mono ?_
      rintro e w2 ⟨rfl, hK2⟩
      have D2 := D.keep hK2
      have k2 : Kp w1 w2 := (hK.alloc _).trans hK2
      have d0 : w2.cell? ⟨wr.heap.size, 0, none⟩ = some (.int .i64 5) := D2.cell 0
      go_wp2_with fail
      go_roundw
      case rel => exact ⟨5, by omega, by go_num, fun h => hall.out (by omega), k2⟩
      case measure => simp [intOf] <;> omega
    · have c0 : wr.cell? ⟨w.heap.size + 1, 10, none⟩ = some (.int .i64 6) := R.cell 10
      have c1 : wr.cell? ⟨w.heap.size + 1, 11, none⟩ = some (.func (.func 204) #[] #[]) := R.cell 11
      have D := Blk.new wr 257 #[.int .i64 6, .func (.func 204) #[] #[]]
      go_wp2_with fail
      refine (er6_any a n _ ha hn Hc.out).mono ?_
      rintro e w2 ⟨rfl, hK2⟩
      have D2 := D.keep hK2
      have k2 : Kp w1 w2 := (hK.alloc _).trans hK2
      have d0 : w2.cell? ⟨wr.heap.size, 0, none⟩ = some (.int .i64 6) := D2.cell 0
      go_wp2_with fail
      go_roundw
      case rel => exact ⟨6, by omega, by go_num, fun h => hall.out (by omega), k2⟩
      case measure => simp [intOf] <;> omega
    · have H := Lib.hid (show whyN a n = 0 by simp [whyN, hall.out (by omega)])
      clear hall
      go_wp2_with fail
      go_ret
      exact ⟨by rw [H.out]; rfl, kw⟩
end Go.Proofs.YtffckpkikdlbpaaGreatDoor
