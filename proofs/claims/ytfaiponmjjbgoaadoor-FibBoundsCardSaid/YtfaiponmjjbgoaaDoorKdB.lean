/- addr.Kind. -/
import Derived.Test.YtfaiponmjjbgoaaDoorKdA
namespace Go.Proofs.YtfaiponmjjbgoaaDoor
open Go.RowKit

set_option maxRecDepth 100000 in
set_option maxHeartbeats 2000000 in
theorem kind_any (a : Nat) (w : World) (ha : a < 4294967296) : Calls Tryd.prog 57 #[.int .u32 a] w fun e w' => e = .returned (.int .i64 (kindN a)) ∧ Kp w w' := by
  have Hat := Lib.hid (fun k (hk : k < 6) => kind_at (a := a) hk)
  go_enter Tryd.func57, Tryd.ntmps57
  go_wp2_with fail
  refine (kindRules_any _).mono ?_
  rintro e w1 ⟨rfl, hC, hR, hK1⟩
  go_wp2_with fail
  go_loopw [7] (fun i wr => ∃ k : Nat, k ≤ 5 ∧ i = .int .i64 k ∧ Hid (∀ j, j < k → kindB j a = false) ∧ Kp w1 wr) (fun i _ => 6 - (intOf i).toNat)
  case atStart => exact ⟨0, by omega, rfl, fun _ h => absurd h (by omega), Kp.refl _⟩
  case round =>
    obtain ⟨k, hk, rfl, hall, hK⟩ := hrel
    have C := hC.keep hK
    have R := hR.keep hK
    have kw := hK1.trans hK
    have hk2 : k = 0 ∨ k = 1 ∨ k = 2 ∨ k = 3 ∨ k = 4 ∨ k = 5 := by omega
    rcases hk2 with rfl | rfl | rfl | rfl | rfl | rfl
    · have c0 : wr.cell? ⟨w.heap.size + 1, 0, none⟩ = some (.int .i64 1) := R.cell 0
      have c1 : wr.cell? ⟨w.heap.size + 1, 1, none⟩ = some (.func (.func 76) #[] #[]) := R.cell 1
      have B := Blk.new wr 136 #[.int .i64 1, .func (.func 76) #[] #[]]
      go_wp2_with fail
      refine (kr2_any a _).mono ?_
      rintro e w2 ⟨rfl, hK2⟩
      have B2 := B.keep hK2
      have k2 : Kp w1 w2 := (hK.alloc _).trans hK2
      have d0 : w2.cell? ⟨wr.heap.size, 0, none⟩ = some (.int .i64 1) := B2.cell 0
      cases hb : kindB 0 a with
      | true =>
        have H := Lib.hid (Hat.out 0 (by omega) hall.out hb)
        clear hb
        go_wp2_with fail
        go_ret
        exact ⟨by rw [H.out]; rfl, hK1.trans k2⟩
      | false =>
        have Hb := Lib.hid hb; clear hb
        go_wp2_with fail
        go_roundw
        case rel =>
          refine ⟨1, by omega, by go_num, fun j hj => ?_, k2⟩
          by_cases e : j = 0
          · subst e; exact Hb.out
          · exact hall.out j (by omega)
        case measure => simp [intOf] <;> omega
    · have c0 : wr.cell? ⟨w.heap.size + 1, 2, none⟩ = some (.int .i64 2) := R.cell 2
      have c1 : wr.cell? ⟨w.heap.size + 1, 3, none⟩ = some (.func (.func 77) #[] #[.pointer (some ⟨w.heap.size, 0, none⟩)]) := R.cell 3
      have B := Blk.new wr 136 #[.int .i64 2, .func (.func 77) #[] #[.pointer (some ⟨w.heap.size, 0, none⟩)]]
      go_wp2_with fail
      refine (kr3_any a w.heap.size _ ha (C.alloc _)).mono ?_
      rintro e w2 ⟨rfl, hK2⟩
      have B2 := B.keep hK2
      have k2 : Kp w1 w2 := (hK.alloc _).trans hK2
      have d0 : w2.cell? ⟨wr.heap.size, 0, none⟩ = some (.int .i64 2) := B2.cell 0
      cases hb : kindB 1 a with
      | true =>
        have H := Lib.hid (Hat.out 1 (by omega) hall.out hb)
        clear hb
        go_wp2_with fail
        go_ret
        exact ⟨by rw [H.out]; rfl, hK1.trans k2⟩
      | false =>
        have Hb := Lib.hid hb; clear hb
        go_wp2_with fail
        go_roundw
        case rel =>
          refine ⟨2, by omega, by go_num, fun j hj => ?_, k2⟩
          by_cases e : j = 1
          · subst e; exact Hb.out
          · exact hall.out j (by omega)
        case measure => simp [intOf] <;> omega
    · have c0 : wr.cell? ⟨w.heap.size + 1, 4, none⟩ = some (.int .i64 3) := R.cell 4
      have c1 : wr.cell? ⟨w.heap.size + 1, 5, none⟩ = some (.func (.func 78) #[] #[.pointer (some ⟨w.heap.size, 0, none⟩)]) := R.cell 5
      have B := Blk.new wr 136 #[.int .i64 3, .func (.func 78) #[] #[.pointer (some ⟨w.heap.size, 0, none⟩)]]
      go_wp2_with fail
      refine (kr4_any a w.heap.size _ ha (C.alloc _)).mono ?_
      rintro e w2 ⟨rfl, hK2⟩
      have B2 := B.keep hK2
      have k2 : Kp w1 w2 := (hK.alloc _).trans hK2
      have d0 : w2.cell? ⟨wr.heap.size, 0, none⟩ = some (.int .i64 3) := B2.cell 0
      cases hb : kindB 2 a with
      | true =>
        have H := Lib.hid (Hat.out 2 (by omega) hall.out hb)
        clear hb
        go_wp2_with fail
        go_ret
        exact ⟨by rw [H.out]; rfl, hK1.trans k2⟩
      | false =>
        have Hb := Lib.hid hb; clear hb
        go_wp2_with fail
        go_roundw
        case rel =>
          refine ⟨3, by omega, by go_num, fun j hj => ?_, k2⟩
          by_cases e : j = 2
          · subst e; exact Hb.out
          · exact hall.out j (by omega)
        case measure => simp [intOf] <;> omega
    · have c0 : wr.cell? ⟨w.heap.size + 1, 6, none⟩ = some (.int .i64 4) := R.cell 6
      have c1 : wr.cell? ⟨w.heap.size + 1, 7, none⟩ = some (.func (.func 79) #[] #[.pointer (some ⟨w.heap.size, 0, none⟩)]) := R.cell 7
      have B := Blk.new wr 136 #[.int .i64 4, .func (.func 79) #[] #[.pointer (some ⟨w.heap.size, 0, none⟩)]]
      go_wp2_with fail
      refine (kr5_any a w.heap.size _ ha (C.alloc _)).mono ?_
      rintro e w2 ⟨rfl, hK2⟩
      have B2 := B.keep hK2
      have k2 : Kp w1 w2 := (hK.alloc _).trans hK2
      have d0 : w2.cell? ⟨wr.heap.size, 0, none⟩ = some (.int .i64 4) := B2.cell 0
      cases hb : kindB 3 a with
      | true =>
        have H := Lib.hid (Hat.out 3 (by omega) hall.out hb)
        clear hb
        go_wp2_with fail
        go_ret
        exact ⟨by rw [H.out]; rfl, hK1.trans k2⟩
      | false =>
        have Hb := Lib.hid hb; clear hb
        go_wp2_with fail
        go_roundw
        case rel =>
          refine ⟨4, by omega, by go_num, fun j hj => ?_, k2⟩
          by_cases e : j = 3
          · subst e; exact Hb.out
          · exact hall.out j (by omega)
        case measure => simp [intOf] <;> omega
    · have c0 : wr.cell? ⟨w.heap.size + 1, 8, none⟩ = some (.int .i64 5) := R.cell 8
      have c1 : wr.cell? ⟨w.heap.size + 1, 9, none⟩ = some (.func (.func 80) #[] #[.pointer (some ⟨w.heap.size, 0, none⟩)]) := R.cell 9
      have B := Blk.new wr 136 #[.int .i64 5, .func (.func 80) #[] #[.pointer (some ⟨w.heap.size, 0, none⟩)]]
      go_wp2_with fail
      refine (kr6_any a w.heap.size _ ha (C.alloc _)).mono ?_
      rintro e w2 ⟨rfl, hK2⟩
      have B2 := B.keep hK2
      have k2 : Kp w1 w2 := (hK.alloc _).trans hK2
      have d0 : w2.cell? ⟨wr.heap.size, 0, none⟩ = some (.int .i64 5) := B2.cell 0
      cases hb : kindB 4 a with
      | true =>
        have H := Lib.hid (Hat.out 4 (by omega) hall.out hb)
        clear hb
        go_wp2_with fail
        go_ret
        exact ⟨by rw [H.out]; rfl, hK1.trans k2⟩
      | false =>
        have Hb := Lib.hid hb; clear hb
        go_wp2_with fail
        go_roundw
        case rel =>
          refine ⟨5, by omega, by go_num, fun j hj => ?_, k2⟩
          by_cases e : j = 4
          · subst e; exact Hb.out
          · exact hall.out j (by omega)
        case measure => simp [intOf] <;> omega
    · have c0 : wr.cell? ⟨w.heap.size + 1, 10, none⟩ = some (.int .i64 6) := R.cell 10
      have c1 : wr.cell? ⟨w.heap.size + 1, 11, none⟩ = some (.func (.func 81) #[] #[]) := R.cell 11
      have B := Blk.new wr 136 #[.int .i64 6, .func (.func 81) #[] #[]]
      go_wp2_with fail
      refine (kr7_any a _).mono ?_
      rintro e w2 ⟨rfl, hK2⟩
      have B2 := B.keep hK2
      have k2 : Kp w1 w2 := (hK.alloc _).trans hK2
      have d0 : w2.cell? ⟨wr.heap.size, 0, none⟩ = some (.int .i64 6) := B2.cell 0
      cases hb : kindB 5 a with
      | true =>
        have H := Lib.hid (Hat.out 5 (by omega) hall.out hb)
        clear hb
        go_wp2_with fail
        go_ret
        exact ⟨by rw [H.out]; rfl, hK1.trans k2⟩
      | false => cases hb
end Go.Proofs.YtfaiponmjjbgoaaDoor
