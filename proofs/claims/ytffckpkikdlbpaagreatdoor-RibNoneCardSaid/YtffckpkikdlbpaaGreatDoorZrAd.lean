/- Lemmas and contracts for the theorem of this claim: VKdA, VKdB. -/
import Derived.Test.YtffckpkikdlbpaaGreatDoorZrAc
set_option linter.unusedSimpArgs false
set_option linter.unusedVariables false
namespace Go.Proofs.YtffckpkikdlbpaaGreatDoor
open Go.RowKit
/-- An address's kind. -/
def kindAB : Nat → Nat → Bool
  | 0, a => decide (a = 0)
  | 1, a => decide (a / 16777216 = 0)
  | 2, a => decide (a / 16777216 = 127)
  | 3, a => decide (224 ≤ a / 16777216) && decide (a / 16777216 ≤ 239)
  | 4, a => decide (240 ≤ a / 16777216)
  | _, _ => true
def kindAd (a : Nat) : Nat := if a = 0 then 1 else if a / 16777216 = 0 then 2 else if a / 16777216 = 127 then 3 else if 224 ≤ a / 16777216 ∧ a / 16777216 ≤ 239 then 4 else if 240 ≤ a / 16777216 then 5 else 6
theorem kind_at {a k : Nat} (hk : k < 6) (h : ∀ j, j < k → kindAB j a = false) (h1 : kindAB k a = true) : kindAd a = k + 1 := by
  have hk2 : k = 0 ∨ k = 1 ∨ k = 2 ∨ k = 3 ∨ k = 4 ∨ k = 5 := by omega
  unfold kindAd
  rcases hk2 with rfl | rfl | rfl | rfl | rfl | rfl
  · simp [kindAB] at h1; simp [h1]
  all_goals
    have g0 := h 0 (by omega)
    simp only [kindAB, decide_eq_false_iff_not] at g0
    rw [if_neg g0]
  · simp [kindAB] at h1; rw [if_pos (by omega)]
  all_goals
    have g1 := h 1 (by omega)
    simp only [kindAB, decide_eq_false_iff_not] at g1
    rw [if_neg g1]
  · simp [kindAB] at h1; rw [if_pos h1]
  all_goals
    have g2 := h 2 (by omega)
    simp only [kindAB, decide_eq_false_iff_not] at g2
    rw [if_neg g2]
  · simp [kindAB] at h1; rw [if_pos h1]
  all_goals
    have g3 := h 3 (by omega)
    simp [kindAB] at g3
    rw [if_neg (by omega)]
  · simp [kindAB] at h1; rw [if_pos h1]
  · have g4 := h 4 (by omega)
    simp [kindAB] at g4
    rw [if_neg (by omega)]
theorem idx4 (x y z u : Value) (w : World) : (Instr.index 269 (.agg #[x, y, z, u]) (.int .i64 0)).run Tryz.prog w = .ok x w := by kernel_rfl
def PartsPost (m : Nat) (w : World) (e : Ending) (w' : World) : Prop := ∃ y z u : Int, e = .returned (.agg #[.int .u8 m, .int .u8 y, .int .u8 z, .int .u8 u]) ∧ Kp w w'
set_option maxRecDepth 100000 in
set_option maxHeartbeats 1000000 in
theorem parts_any (a m : Nat) (w : World) (ha : a < 4294967296) (hm : a / 16777216 = m) : Calls Tryz.prog 206 #[.int .u32 a] w (PartsPost m w) := by
  have Hm := Lib.hid hm; clear hm
  go_enter Tryz.func206, Tryz.ntmps206
  go_wp2_with fail
  all_goals first
    | omega
    | exact bodyPost_ret (v := .agg #[.int .u8 ((a : Int) / 16777216), .int .u8 ((a : Int) / 65536 % 256), .int .u8 ((a : Int) / 256 % 256), .int .u8 ((a : Int) % 256)]) (by simp [results, Tryz.results206, go_sem]) rfl ⟨_, _, _, by rw [← Hm.out]; rfl, (Kp.refl _).alloc _⟩
set_option maxRecDepth 100000 in
set_option maxHeartbeats 1000000 in
theorem first_any (a m : Nat) (w : World) (ha : a < 4294967296) (hm : a / 16777216 = m) :
    Calls Tryz.prog 205 #[.int .u32 a] w fun e w' => e = .returned (.int .u8 m) ∧ Kp w w' := by
  have h4 := idx4
  have Hm := Lib.hid hm; clear hm
  go_enter Tryz.func205, Tryz.ntmps205
  go_wp2_with fail
  refine (parts_any a m _ ha Hm.out).mono ?_
  rintro e w' ⟨y, z, u, rfl, hK⟩
  go_wp2_with fail
  go_ret
  exact ⟨rfl, hK⟩
theorem kr2_any (a : Nat) (w : World) : Calls Tryz.prog 207 #[.int .u32 a] w fun e w' => e = .returned (.bool (kindAB 0 a)) ∧ Kp w w' := by
  have H := Lib.hid (show kindAB 0 a = ((a : Int) == 0) by simp only [kindAB]; rw [Bool.eq_iff_iff]; simp)
  go_enter Tryz.func207, Tryz.ntmps207
  go_wp2_with fail
  go_ret
  exact ⟨by rw [H.out]; rfl, Kp.refl _⟩
theorem kr7_any (a : Nat) (w : World) : Calls Tryz.prog 212 #[.int .u32 a] w fun e w' => e = .returned (.bool (kindAB 5 a)) ∧ Kp w w' := by
  go_enter Tryz.func212, Tryz.ntmps212
  go_wp2_with fail
  go_ret
  exact ⟨rfl, Kp.refl _⟩
set_option maxRecDepth 100000 in
set_option maxHeartbeats 1000000 in
theorem kr3_any (a c : Nat) (w : World) (ha : a < 4294967296) (hc : Blk w c 271 #[.func (.func 205) #[] #[]]) : Calls Tryz.prog 208 #[.int .u32 a, .pointer (some ⟨c, 0, none⟩)] w fun e w' => e = .returned (.bool (kindAB 1 a)) ∧ Kp w w' := by
  have c0 : w.cell? ⟨c, 0, none⟩ = some (.func (.func 205) #[] #[]) := hc.cell 0
  obtain ⟨m, hm⟩ : ∃ m, a / 16777216 = m := ⟨_, rfl⟩
  have H := Lib.hid (show kindAB 1 a = ((m : Int) == 0) by simp only [kindAB, hm]; rw [Bool.eq_iff_iff]; simp <;> omega)
  have Hm := Lib.hid hm; clear hm
  go_enter Tryz.func208, Tryz.ntmps208
  go_wp2_with fail
  refine (first_any a m _ ha Hm.out).mono ?_
  rintro e w' ⟨rfl, hK⟩
  go_wp2_with fail
  go_ret
  exact ⟨by rw [H.out]; rfl, hK⟩
set_option maxRecDepth 100000 in
set_option maxHeartbeats 1000000 in
theorem kr4_any (a c : Nat) (w : World) (ha : a < 4294967296) (hc : Blk w c 271 #[.func (.func 205) #[] #[]]) : Calls Tryz.prog 209 #[.int .u32 a, .pointer (some ⟨c, 0, none⟩)] w fun e w' => e = .returned (.bool (kindAB 2 a)) ∧ Kp w w' := by
  have c0 : w.cell? ⟨c, 0, none⟩ = some (.func (.func 205) #[] #[]) := hc.cell 0
  obtain ⟨m, hm⟩ : ∃ m, a / 16777216 = m := ⟨_, rfl⟩
  have H := Lib.hid (show kindAB 2 a = ((m : Int) == 127) by simp only [kindAB, hm]; rw [Bool.eq_iff_iff]; simp <;> omega)
  have Hm := Lib.hid hm; clear hm
  go_enter Tryz.func209, Tryz.ntmps209
  go_wp2_with fail
  refine (first_any a m _ ha Hm.out).mono ?_
  rintro e w' ⟨rfl, hK⟩
  go_wp2_with fail
  go_ret
  exact ⟨by rw [H.out]; rfl, hK⟩
set_option maxRecDepth 100000 in
set_option maxHeartbeats 1000000 in
theorem kr6_any (a c : Nat) (w : World) (ha : a < 4294967296) (hc : Blk w c 271 #[.func (.func 205) #[] #[]]) : Calls Tryz.prog 211 #[.int .u32 a, .pointer (some ⟨c, 0, none⟩)] w fun e w' => e = .returned (.bool (kindAB 4 a)) ∧ Kp w w' := by
  have c0 : w.cell? ⟨c, 0, none⟩ = some (.func (.func 205) #[] #[]) := hc.cell 0
  obtain ⟨m, hm⟩ : ∃ m, a / 16777216 = m := ⟨_, rfl⟩
  have H := Lib.hid (show kindAB 4 a = decide ((240 : Int) ≤ (m : Int)) by simp only [kindAB, hm]; rw [Bool.eq_iff_iff]; simp <;> omega)
  have Hm := Lib.hid hm; clear hm
  go_enter Tryz.func211, Tryz.ntmps211
  go_wp2_with fail
  refine (first_any a m _ ha Hm.out).mono ?_
  rintro e w' ⟨rfl, hK⟩
  go_wp2_with fail
  go_ret
  exact ⟨by rw [H.out]; rfl, hK⟩
set_option maxRecDepth 100000 in
set_option maxHeartbeats 1000000 in
theorem kr5_any (a c : Nat) (w : World) (ha : a < 4294967296) (hc : Blk w c 271 #[.func (.func 205) #[] #[]]) : Calls Tryz.prog 210 #[.int .u32 a, .pointer (some ⟨c, 0, none⟩)] w fun e w' => e = .returned (.bool (kindAB 3 a)) ∧ Kp w w' := by
  have c0 : w.cell? ⟨c, 0, none⟩ = some (.func (.func 205) #[] #[]) := hc.cell 0
  have Hc := Lib.hid hc; clear hc
  obtain ⟨m, hm⟩ : ∃ m, a / 16777216 = m := ⟨_, rfl⟩
  have H := Lib.hid (show kindAB 3 a = (decide (224 ≤ m) && decide (m ≤ 239)) by simp only [kindAB, hm])
  have Hm := Lib.hid hm; clear hm
  by_cases h : 224 ≤ m
  · have hd : decide ((224 : Int) ≤ (m : Int)) = true := by simp; omega
    have hd2 : decide (224 ≤ m) = true := by simpa using h
    have hk := Lib.hid (show kindAB 3 a = decide ((m : Int) ≤ 239) by rw [H.out, hd2, Bool.true_and, Bool.eq_iff_iff]; simp; omega)
    have Hh := Lib.hid h; clear h
    go_enter Tryz.func210, Tryz.ntmps210
    go_wp2_with fail
    refine (first_any a m _ ha Hm.out).mono ?_
    rintro e w1 ⟨rfl, hK⟩
    have c1 : w1.cell? ⟨c, 0, none⟩ = some (.func (.func 205) #[] #[]) := hK.cell c0
    go_wp2_with fail
    refine (first_any a m _ ha Hm.out).mono ?_
    rintro e w2 ⟨rfl, hK2⟩
    go_wp2_with fail
    go_ret
    exact ⟨by rw [hk.out]; rfl, hK.trans hK2⟩
  · have hd : decide ((224 : Int) ≤ (m : Int)) = false := by simp; omega
    have hd2 : decide (224 ≤ m) = false := by simpa using h
    have hk := Lib.hid (show kindAB 3 a = false by rw [H.out, hd2, Bool.false_and])
    have Hh := Lib.hid h; clear h
    go_enter Tryz.func210, Tryz.ntmps210
    go_wp2_with fail
    refine (first_any a m _ ha Hm.out).mono ?_
    rintro e w1 ⟨rfl, hK⟩
    go_wp2_with fail
    go_ret
    exact ⟨by rw [hk.out]; rfl, hK⟩
def kindCells (c : Nat) : Array Value := #[.int .i64 1, .func (.func 207) #[] #[], .int .i64 2, .func (.func 208) #[] #[.pointer (some ⟨c, 0, none⟩)], .int .i64 3, .func (.func 209) #[] #[.pointer (some ⟨c, 0, none⟩)], .int .i64 4, .func (.func 210) #[] #[.pointer (some ⟨c, 0, none⟩)], .int .i64 5, .func (.func 211) #[] #[.pointer (some ⟨c, 0, none⟩)], .int .i64 6, .func (.func 212) #[] #[]]
set_option maxHeartbeats 1000000 in
theorem kindRules_any (w : World) : Calls Tryz.prog 196 #[] w fun e w' => e = .returned (.slice (some ⟨w.heap.size + 1, 0, none⟩) 6 6) ∧ Blk w' w.heap.size 271 #[.func (.func 205) #[] #[]] ∧ Blk w' (w.heap.size + 1) 263 (kindCells w.heap.size) ∧ Kp w w' := by
  have hmf := makeFunc_runV
  go_enter Tryz.func196, Tryz.ntmps196
  go_wp2_with fail
  go_ret
  exact ⟨rfl, (Blk.new w _ _).alloc _, Blk.new1 w _ _ _, ((Kp.refl _).alloc _).alloc _⟩
end Go.Proofs.YtffckpkikdlbpaaGreatDoor

namespace Go.Proofs.YtffckpkikdlbpaaGreatDoor
open Go.RowKit
set_option maxRecDepth 100000 in
set_option maxHeartbeats 2000000 in
theorem kindAd_any (a : Nat) (w : World) (ha : a < 4294967296) : Calls Tryz.prog 183 #[.int .u32 a] w fun e w' => e = .returned (.int .i64 (kindAd a)) ∧ Kp w w' := by
  have Hat := Lib.hid (fun k (hk : k < 6) => kind_at (a := a) hk)
  go_enter Tryz.func183, Tryz.ntmps183
  go_wp2_with fail
  refine (kindRules_any _).mono ?_
  rintro e w1 ⟨rfl, hC, hR, hK1⟩
  go_wp2_with fail
  go_loopw [7] (fun i wr => ∃ k : Nat, k ≤ 5 ∧ i = .int .i64 k ∧ Hid (∀ j, j < k → kindAB j a = false) ∧ Kp w1 wr) (fun i _ => 6 - (intOf i).toNat)
  case atStart => exact ⟨0, by omega, rfl, fun _ h => absurd h (by omega), Kp.refl _⟩
  case round =>
    obtain ⟨k, hk, rfl, hall, hK⟩ := hrel
    have C := hC.keep hK
    have R := hR.keep hK
    have kw := hK1.trans hK
    have hk2 : k = 0 ∨ k = 1 ∨ k = 2 ∨ k = 3 ∨ k = 4 ∨ k = 5 := by omega
    rcases hk2 with rfl | rfl | rfl | rfl | rfl | rfl
    · have c0 : wr.cell? ⟨w.heap.size + 1, 0, none⟩ = some (.int .i64 1) := R.cell 0
      have c1 : wr.cell? ⟨w.heap.size + 1, 1, none⟩ = some (.func (.func 207) #[] #[]) := R.cell 1
      have B := Blk.new wr 263 #[.int .i64 1, .func (.func 207) #[] #[]]
      go_wp2_with fail
      refine (kr2_any a _).mono ?_
      rintro e w2 ⟨rfl, hK2⟩
      have B2 := B.keep hK2
      have k2 : Kp w1 w2 := (hK.alloc _).trans hK2
      have d0 : w2.cell? ⟨wr.heap.size, 0, none⟩ = some (.int .i64 1) := B2.cell 0
      cases hb : kindAB 0 a with
      | true =>
        have H := Lib.hid (Hat.out 0 (by omega) hall.out hb)
        clear hb
        go_wp2_with fail
        go_ret
        exact ⟨by rw [H.out]; rfl, hK1.trans k2⟩
      | false =>
        have Hb := Lib.hid hb; clear hb
        go_wp2_with fail
        go_roundw
        case rel =>
          refine ⟨1, by omega, by go_num, fun j hj => ?_, k2⟩
          by_cases e : j = 0
          · subst e; exact Hb.out
          · exact hall.out j (by omega)
        case measure => simp [intOf] <;> omega
    · have c0 : wr.cell? ⟨w.heap.size + 1, 2, none⟩ = some (.int .i64 2) := R.cell 2
      have c1 : wr.cell? ⟨w.heap.size + 1, 3, none⟩ = some (.func (.func 208) #[] #[.pointer (some ⟨w.heap.size, 0, none⟩)]) := R.cell 3
      have B := Blk.new wr 263 #[.int .i64 2, .func (.func 208) #[] #[.pointer (some ⟨w.heap.size, 0, none⟩)]]
      go_wp2_with fail
      refine (kr3_any a w.heap.size _ ha (C.alloc _)).mono ?_
      rintro e w2 ⟨rfl, hK2⟩
      have B2 := B.keep hK2
      have k2 : Kp w1 w2 := (hK.alloc _).trans hK2
      have d0 : w2.cell? ⟨wr.heap.size, 0, none⟩ = some (.int .i64 2) := B2.cell 0
      cases hb : kindAB 1 a with
      | true =>
        have H := Lib.hid (Hat.out 1 (by omega) hall.out hb)
        clear hb
        go_wp2_with fail
        go_ret
        exact ⟨by rw [H.out]; rfl, hK1.trans k2⟩
      | false =>
        have Hb := Lib.hid hb; clear hb
        go_wp2_with fail
        go_roundw
        case rel =>
          refine ⟨2, by omega, by go_num, fun j hj => ?_, k2⟩
          by_cases e : j = 1
          · subst e; exact Hb.out
          · exact hall.out j (by omega)
        case measure => simp [intOf] <;> omega
    · have c0 : wr.cell? ⟨w.heap.size + 1, 4, none⟩ = some (.int .i64 3) := R.cell 4
      have c1 : wr.cell? ⟨w.heap.size + 1, 5, none⟩ = some (.func (.func 209) #[] #[.pointer (some ⟨w.heap.size, 0, none⟩)]) := R.cell 5
      have B := Blk.new wr 263 #[.int .i64 3, .func (.func 209) #[] #[.pointer (some ⟨w.heap.size, 0, none⟩)]]
      go_wp2_with fail
      refine (kr4_any a w.heap.size _ ha (C.alloc _)).mono ?_
      rintro e w2 ⟨rfl, hK2⟩
      have B2 := B.keep hK2
      have k2 : Kp w1 w2 := (hK.alloc _).trans hK2
      have d0 : w2.cell? ⟨wr.heap.size, 0, none⟩ = some (.int .i64 3) := B2.cell 0
      cases hb : kindAB 2 a with
      | true =>
        have H := Lib.hid (Hat.out 2 (by omega) hall.out hb)
        clear hb
        go_wp2_with fail
        go_ret
        exact ⟨by rw [H.out]; rfl, hK1.trans k2⟩
      | false =>
        have Hb := Lib.hid hb; clear hb
        go_wp2_with fail
        go_roundw
        case rel =>
          refine ⟨3, by omega, by go_num, fun j hj => ?_, k2⟩
          by_cases e : j = 2
          · subst e; exact Hb.out
          · exact hall.out j (by omega)
        case measure => simp [intOf] <;> omega
    · have c0 : wr.cell? ⟨w.heap.size + 1, 6, none⟩ = some (.int .i64 4) := R.cell 6
      have c1 : wr.cell? ⟨w.heap.size + 1, 7, none⟩ = some (.func (.func 210) #[] #[.pointer (some ⟨w.heap.size, 0, none⟩)]) := R.cell 7
      have B := Blk.new wr 263 #[.int .i64 4, .func (.func 210) #[] #[.pointer (some ⟨w.heap.size, 0, none⟩)]]
      go_wp2_with fail
      refine (kr5_any a w.heap.size _ ha (C.alloc _)).mono ?_
      rintro e w2 ⟨rfl, hK2⟩
      have B2 := B.keep hK2
      have k2 : Kp w1 w2 := (hK.alloc _).trans hK2
      have d0 : w2.cell? ⟨wr.heap.size, 0, none⟩ = some (.int .i64 4) := B2.cell 0
      cases hb : kindAB 3 a with
      | true =>
        have H := Lib.hid (Hat.out 3 (by omega) hall.out hb)
        clear hb
        go_wp2_with fail
        go_ret
        exact ⟨by rw [H.out]; rfl, hK1.trans k2⟩
      | false =>
        have Hb := Lib.hid hb; clear hb
        go_wp2_with fail
        go_roundw
        case rel =>
          refine ⟨4, by omega, by go_num, fun j hj => ?_, k2⟩
          by_cases e : j = 3
          · subst e; exact Hb.out
          · exact hall.out j (by omega)
        case measure => simp [intOf] <;> omega
    · have c0 : wr.cell? ⟨w.heap.size + 1, 8, none⟩ = some (.int .i64 5) := R.cell 8
      have c1 : wr.cell? ⟨w.heap.size + 1, 9, none⟩ = some (.func (.func 211) #[] #[.pointer (some ⟨w.heap.size, 0, none⟩)]) := R.cell 9
      have B := Blk.new wr 263 #[.int .i64 5, .func (.func 211) #[] #[.pointer (some ⟨w.heap.size, 0, none⟩)]]
      go_wp2_with fail
      refine (kr6_any a w.heap.size _ ha (C.alloc _)).mono ?_
      rintro e w2 ⟨rfl, hK2⟩
      have B2 := B.keep hK2
      have k2 : Kp w1 w2 := (hK.alloc _).trans hK2
      have d0 : w2.cell? ⟨wr.heap.size, 0, none⟩ = some (.int .i64 5) := B2.cell 0
      cases hb : kindAB 4 a with
      | true =>
        have H := Lib.hid (Hat.out 4 (by omega) hall.out hb)
        clear hb
        go_wp2_with fail
        go_ret
        exact ⟨by rw [H.out]; rfl, hK1.trans k2⟩
      | false =>
        have Hb := Lib.hid hb; clear hb
        go_wp2_with fail
        go_roundw
        case rel =>
          refine ⟨5, by omega, by go_num, fun j hj => ?_, k2⟩
          by_cases e : j = 4
          · subst e; exact Hb.out
          · exact hall.out j (by omega)
        case measure => simp [intOf] <;> omega
    · have c0 : wr.cell? ⟨w.heap.size + 1, 10, none⟩ = some (.int .i64 6) := R.cell 10
      have c1 : wr.cell? ⟨w.heap.size + 1, 11, none⟩ = some (.func (.func 212) #[] #[]) := R.cell 11
      have B := Blk.new wr 263 #[.int .i64 6, .func (.func 212) #[] #[]]
      go_wp2_with fail
      refine (kr7_any a _).mono ?_
      rintro e w2 ⟨rfl, hK2⟩
      have B2 := B.keep hK2
      have k2 : Kp w1 w2 := (hK.alloc _).trans hK2
      have d0 : w2.cell? ⟨wr.heap.size, 0, none⟩ = some (.int .i64 6) := B2.cell 0
      cases hb : kindAB 5 a with
      | true =>
        have H := Lib.hid (Hat.out 5 (by omega) hall.out hb)
        clear hb
        go_wp2_with fail
        go_ret
        exact ⟨by rw [H.out]; rfl, hK1.trans k2⟩
      | false => cases hb
end Go.Proofs.YtffckpkikdlbpaaGreatDoor
