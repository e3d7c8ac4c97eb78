/- addr.Kind, over plain numbers. -/
import Derived.Test.YtfaiponmjjbgoaaDoorTrP
namespace Go.Proofs.YtfaiponmjjbgoaaDoor
open Go.RowKit

/-- An address's kind. -/
def kindB : Nat → Nat → Bool
  | 0, a => decide (a = 0)
  | 1, a => decide (a / 16777216 = 0)
  | 2, a => decide (a / 16777216 = 127)
  | 3, a => decide (224 ≤ a / 16777216) && decide (a / 16777216 ≤ 239)
  | 4, a => decide (240 ≤ a / 16777216)
  | _, _ => true
def kindN (a : Nat) : Nat := if a = 0 then 1 else if a / 16777216 = 0 then 2 else if a / 16777216 = 127 then 3 else if 224 ≤ a / 16777216 ∧ a / 16777216 ≤ 239 then 4 else if 240 ≤ a / 16777216 then 5 else 6
theorem kind_at {a k : Nat} (hk : k < 6) (h : ∀ j, j < k → kindB j a = false) (h1 : kindB k a = true) : kindN a = k + 1 := by
  have hk2 : k = 0 ∨ k = 1 ∨ k = 2 ∨ k = 3 ∨ k = 4 ∨ k = 5 := by omega
  unfold kindN
  rcases hk2 with rfl | rfl | rfl | rfl | rfl | rfl
  · simp [kindB] at h1; simp [h1]
  all_goals
    have g0 := h 0 (by omega)
    simp only [kindB, decide_eq_false_iff_not] at g0
    rw [if_neg g0]
  · simp [kindB] at h1; rw [if_pos (by omega)]
  all_goals
    have g1 := h 1 (by omega)
    simp only [kindB, decide_eq_false_iff_not] at g1
    rw [if_neg g1]
  · simp [kindB] at h1; rw [if_pos h1]
  all_goals
    have g2 := h 2 (by omega)
    simp only [kindB, decide_eq_false_iff_not] at g2
    rw [if_neg g2]
  · simp [kindB] at h1; rw [if_pos h1]
  all_goals
    have g3 := h 3 (by omega)
    simp [kindB] at g3
    rw [if_neg (by omega)]
  · simp [kindB] at h1; rw [if_pos h1]
  · have g4 := h 4 (by omega)
    simp [kindB] at g4
    rw [if_neg (by omega)]

theorem idx4 (x y z u : Value) (w : World) : (Instr.index 141 (.agg #[x, y, z, u]) (.int .i64 0)).run Tryd.prog w = .ok x w := by kernel_rfl
theorem byte_top {a : Nat} (ha : a < 4294967296) : ((a : Int) / 16777216) % 256 = ((a / 16777216 : Nat) : Int) := by omega

def PartsPost (m : Nat) (w : World) (e : Ending) (w' : World) : Prop := ∃ y z u : Int, e = .returned (.agg #[.int .u8 m, .int .u8 y, .int .u8 z, .int .u8 u]) ∧ Kp w w'

set_option maxRecDepth 100000 in
set_option maxHeartbeats 1000000 in
theorem parts_any (a m : Nat) (w : World) (ha : a < 4294967296) (hm : a / 16777216 = m) : Calls Tryd.prog 75 #[.int .u32 a] w (PartsPost m w) := by
  have Hm := Lib.hid hm; clear hm
  go_enter Tryd.func75, Tryd.ntmps75
  go_wp2_with fail
  all_goals first
    | omega
    | exact bodyPost_ret (v := .agg #[.int .u8 ((a : Int) / 16777216), .int .u8 ((a : Int) / 65536 % 256), .int .u8 ((a : Int) / 256 % 256), .int .u8 ((a : Int) % 256)]) (by simp [results, Tryd.results75, go_sem]) rfl ⟨_, _, _, by rw [← Hm.out]; rfl, (Kp.refl _).alloc _⟩

set_option maxRecDepth 100000 in
set_option maxHeartbeats 1000000 in
theorem first_any (a m : Nat) (w : World) (ha : a < 4294967296) (hm : a / 16777216 = m) :
    Calls Tryd.prog 74 #[.int .u32 a] w fun e w' => e = .returned (.int .u8 m) ∧ Kp w w' := by
  have h4 := idx4
  have Hm := Lib.hid hm; clear hm
  go_enter Tryd.func74, Tryd.ntmps74
  go_wp2_with fail
  refine (parts_any a m _ ha Hm.out).mono ?_
  rintro e w' ⟨y, z, u, rfl, hK⟩
  go_wp2_with fail
  go_ret
  exact ⟨rfl, hK⟩

theorem kr2_any (a : Nat) (w : World) : Calls Tryd.prog 76 #[.int .u32 a] w fun e w' => e = .returned (.bool (kindB 0 a)) ∧ Kp w w' := by
  have H := Lib.hid (show kindB 0 a = ((a : Int) == 0) by simp only [kindB]; rw [Bool.eq_iff_iff]; simp)
  go_enter Tryd.func76, Tryd.ntmps76
  go_wp2_with fail
  go_ret
  exact ⟨by rw [H.out]; rfl, Kp.refl _⟩
theorem kr7_any (a : Nat) (w : World) : Calls Tryd.prog 81 #[.int .u32 a] w fun e w' => e = .returned (.bool (kindB 5 a)) ∧ Kp w w' := by
  go_enter Tryd.func81, Tryd.ntmps81
  go_wp2_with fail
  go_ret
  exact ⟨rfl, Kp.refl _⟩
set_option maxRecDepth 100000 in
set_option maxHeartbeats 1000000 in
theorem kr3_any (a c : Nat) (w : World) (ha : a < 4294967296) (hc : Blk w c 143 #[.func (.func 74) #[] #[]]) : Calls Tryd.prog 77 #[.int .u32 a, .pointer (some ⟨c, 0, none⟩)] w fun e w' => e = .returned (.bool (kindB 1 a)) ∧ Kp w w' := by
  have c0 : w.cell? ⟨c, 0, none⟩ = some (.func (.func 74) #[] #[]) := hc.cell 0
  obtain ⟨m, hm⟩ : ∃ m, a / 16777216 = m := ⟨_, rfl⟩
  have H := Lib.hid (show kindB 1 a = ((m : Int) == 0) by simp only [kindB, hm]; rw [Bool.eq_iff_iff]; simp <;> omega)
  have Hm := Lib.hid hm; clear hm
  go_enter Tryd.func77, Tryd.ntmps77
  go_wp2_with fail
  refine (first_any a m _ ha Hm.out).mono ?_
  rintro e w' ⟨rfl, hK⟩
  go_wp2_with fail
  go_ret
  exact ⟨by rw [H.out]; rfl, hK⟩
set_option maxRecDepth 100000 in
set_option maxHeartbeats 1000000 in
theorem kr4_any (a c : Nat) (w : World) (ha : a < 4294967296) (hc : Blk w c 143 #[.func (.func 74) #[] #[]]) : Calls Tryd.prog 78 #[.int .u32 a, .pointer (some ⟨c, 0, none⟩)] w fun e w' => e = .returned (.bool (kindB 2 a)) ∧ Kp w w' := by
  have c0 : w.cell? ⟨c, 0, none⟩ = some (.func (.func 74) #[] #[]) := hc.cell 0
  obtain ⟨m, hm⟩ : ∃ m, a / 16777216 = m := ⟨_, rfl⟩
  have H := Lib.hid (show kindB 2 a = ((m : Int) == 127) by simp only [kindB, hm]; rw [Bool.eq_iff_iff]; simp <;> omega)
  have Hm := Lib.hid hm; clear hm
  go_enter Tryd.func78, Tryd.ntmps78
  go_wp2_with fail
  refine (first_any a m _ ha Hm.out).mono ?_
  rintro e w' ⟨rfl, hK⟩
  go_wp2_with fail
  go_ret
  exact ⟨by rw [H.out]; rfl, hK⟩
set_option maxRecDepth 100000 in
set_option maxHeartbeats 1000000 in
theorem kr6_any (a c : Nat) (w : World) (ha : a < 4294967296) (hc : Blk w c 143 #[.func (.func 74) #[] #[]]) : Calls Tryd.prog 80 #[.int .u32 a, .pointer (some ⟨c, 0, none⟩)] w fun e w' => e = .returned (.bool (kindB 4 a)) ∧ Kp w w' := by
  have c0 : w.cell? ⟨c, 0, none⟩ = some (.func (.func 74) #[] #[]) := hc.cell 0
  obtain ⟨m, hm⟩ : ∃ m, a / 16777216 = m := ⟨_, rfl⟩
  have H := Lib.hid (show kindB 4 a = decide ((240 : Int) ≤ (m : Int)) by simp only [kindB, hm]; rw [Bool.eq_iff_iff]; simp <;> omega)
  have Hm := Lib.hid hm; clear hm
  go_enter Tryd.func80, Tryd.ntmps80
  go_wp2_with fail
  refine (first_any a m _ ha Hm.out).mono ?_
  rintro e w' ⟨rfl, hK⟩
  go_wp2_with fail
  go_ret
  exact ⟨by rw [H.out]; rfl, hK⟩
set_option maxRecDepth 100000 in
set_option maxHeartbeats 1000000 in
theorem kr5_any (a c : Nat) (w : World) (ha : a < 4294967296) (hc : Blk w c 143 #[.func (.func 74) #[] #[]]) : Calls Tryd.prog 79 #[.int .u32 a, .pointer (some ⟨c, 0, none⟩)] w fun e w' => e = .returned (.bool (kindB 3 a)) ∧ Kp w w' := by
  have c0 : w.cell? ⟨c, 0, none⟩ = some (.func (.func 74) #[] #[]) := hc.cell 0
  have Hc := Lib.hid hc; clear hc
  obtain ⟨m, hm⟩ : ∃ m, a / 16777216 = m := ⟨_, rfl⟩
  have H := Lib.hid (show kindB 3 a = (decide (224 ≤ m) && decide (m ≤ 239)) by simp only [kindB, hm])
  have Hm := Lib.hid hm; clear hm
  by_cases h : 224 ≤ m
  · have hd : decide ((224 : Int) ≤ (m : Int)) = true := by simp; omega
    have hd2 : decide (224 ≤ m) = true := by simpa using h
    have hk := Lib.hid (show kindB 3 a = decide ((m : Int) ≤ 239) by rw [H.out, hd2, Bool.true_and, Bool.eq_iff_iff]; simp; omega)
    have Hh := Lib.hid h; clear h
    go_enter Tryd.func79, Tryd.ntmps79
    go_wp2_with fail
    refine (first_any a m _ ha Hm.out).mono ?_
    rintro e w1 ⟨rfl, hK⟩
    have c1 : w1.cell? ⟨c, 0, none⟩ = some (.func (.func 74) #[] #[]) := hK.cell c0
    go_wp2_with fail
    refine (first_any a m _ ha Hm.out).mono ?_
    rintro e w2 ⟨rfl, hK2⟩
    go_wp2_with fail
    go_ret
    exact ⟨by rw [hk.out]; rfl, hK.trans hK2⟩
  · have hd : decide ((224 : Int) ≤ (m : Int)) = false := by simp; omega
    have hd2 : decide (224 ≤ m) = false := by simpa using h
    have hk := Lib.hid (show kindB 3 a = false by rw [H.out, hd2, Bool.false_and])
    have Hh := Lib.hid h; clear h
    go_enter Tryd.func79, Tryd.ntmps79
    go_wp2_with fail
    refine (first_any a m _ ha Hm.out).mono ?_
    rintro e w1 ⟨rfl, hK⟩
    go_wp2_with fail
    go_ret
    exact ⟨by rw [hk.out]; rfl, hK⟩

def kindCells (c : Nat) : Array Value := #[.int .i64 1, .func (.func 76) #[] #[], .int .i64 2, .func (.func 77) #[] #[.pointer (some ⟨c, 0, none⟩)], .int .i64 3, .func (.func 78) #[] #[.pointer (some ⟨c, 0, none⟩)], .int .i64 4, .func (.func 79) #[] #[.pointer (some ⟨c, 0, none⟩)], .int .i64 5, .func (.func 80) #[] #[.pointer (some ⟨c, 0, none⟩)], .int .i64 6, .func (.func 81) #[] #[]]
set_option maxHeartbeats 1000000 in
theorem kindRules_any (w : World) : Calls Tryd.prog 65 #[] w fun e w' => e = .returned (.slice (some ⟨w.heap.size + 1, 0, none⟩) 6 6) ∧ Blk w' w.heap.size 143 #[.func (.func 74) #[] #[]] ∧ Blk w' (w.heap.size + 1) 136 (kindCells w.heap.size) ∧ Kp w w' := by
  have hmf := makeFunc_run
  go_enter Tryd.func65, Tryd.ntmps65
  go_wp2_with fail
  go_ret
  exact ⟨rfl, (Blk.new w _ _).alloc _, Blk.new1 w _ _ _, ((Kp.refl _).alloc _).alloc _⟩
end Go.Proofs.YtfaiponmjjbgoaaDoor
