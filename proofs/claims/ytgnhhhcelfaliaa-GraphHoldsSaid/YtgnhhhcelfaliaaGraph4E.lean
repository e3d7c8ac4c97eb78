/- GraphHolds: the ways out, and the whole. -/
import Derived.Test.YtgnhhhcelfaliaaGraph4
namespace Go.Proofs.Ytgnhhhcelfaliaa
open Go.RowKit

set_option maxRecDepth 100000 in
set_option maxHeartbeats 1000000 in
theorem holds_1 (R m k : Int) (A A2 : Option Addr) (c c2 : Nat) (ls : List Lk) (os : List Int) (w : World) (hn : ¬ ls.length ≤ 30) :
    Calls Try.prog 6 (holdsArgs R m k A A2 c c2 ls os) w fun e w' => e = .returned (.bool true) ∧ Kp w w' := by
  have H := Lib.hid (few_no hn); clear hn
  go_enter Try.func6, Try.ntmps6
  go_wp2_with fail
  refine (few_any R A ls.length c _).mono ?_
  rintro e w1 ⟨rfl, hK1⟩
  rw [H.out]
  have k1 : Kp w w1 := ((Kp.refl _).alloc _).trans hK1
  go_wp2_with fail
  refine (works_any _).mono ?_
  rintro e w9 ⟨rfl, hK9⟩
  go_wp2_with fail
  go_ret
  exact ⟨rfl, k1.trans hK9⟩

set_option maxRecDepth 100000 in
set_option maxHeartbeats 1000000 in
theorem holds_2 (R m k : Int) (A A2 : Option Addr) (c c2 : Nat) (ls : List Lk) (os : List Int) (w : World) (hn : ls.length ≤ 30) (ho : ¬ os.length ≤ 12) :
    Calls Try.prog 6 (holdsArgs R m k A A2 c c2 ls os) w fun e w' => e = .returned (.bool true) ∧ Kp w w' := by
  have H := Lib.hid (few_yes hn); clear hn
  have ho' : 12 < os.length := by omega
  clear ho
  go_enter Try.func6, Try.ntmps6
  go_wp2_with fail
  refine (few_any R A ls.length c _).mono ?_
  rintro e w1 ⟨rfl, hK1⟩
  rw [H.out]
  have k1 : Kp w w1 := ((Kp.refl _).alloc _).trans hK1
  go_wp2_with fail
  refine (works_any _).mono ?_
  rintro e w9 ⟨rfl, hK9⟩
  go_wp2_with fail
  go_ret
  exact ⟨rfl, k1.trans hK9⟩

set_option maxRecDepth 100000 in
set_option maxHeartbeats 1000000 in
theorem holds_3 (R m k : Int) (A A2 : Option Addr) (c c2 : Nat) (ls : List Lk) (os : List Int) (w : World) (hR : Rd w 3 Lk.enc A ls) (hn : ls.length ≤ 30) (hO : Rd w 1 intE A2 os) (ho : os.length ≤ 12) (he : ¬ ownersErr R ls os = 0) :
    Calls Try.prog 6 (holdsArgs R m k A A2 c c2 ls os) w fun e w' => e = .returned (.bool true) ∧ Kp w w' := by
  have H := Lib.hid (few_yes hn)
  have He := Lib.hid he; clear he
  go_enter Try.func6, Try.ntmps6
  go_wp2_with fail
  refine (few_any R A ls.length c _).mono ?_
  rintro e w1 ⟨rfl, hK1⟩
  rw [H.out]
  have k1 : Kp w w1 := ((Kp.refl _).alloc _).trans hK1
  have G1 : Blk w1 w.heap.size 24 #[.int .i64 R, .slice A ls.length c] := (Blk.new w _ _).keep hK1
  have g0 : w1.cell? ⟨w.heap.size, 0, none⟩ = some (.int .i64 R) := G1.cell 0
  have g1 : w1.cell? ⟨w.heap.size, 1, none⟩ = some (.slice A ls.length c) := G1.cell 1
  go_wp2_with fail
  refine (rowners_any R A A2 c c2 ls os _ (hR.keep k1) hn (hO.keep k1) (by omega)).mono ?_
  rintro e w2 ⟨rfl, hK2⟩
  have k2 := k1.trans hK2
  have G2 := G1.keep hK2
  clear g0 g1 G1
  have g0 : w2.cell? ⟨w.heap.size, 0, none⟩ = some (.int .i64 R) := G2.cell 0
  have e2 : (ownersErr R ls os != 0) = true := by simpa using He.out
  go_wp2_with fail
  refine (works_any _).mono ?_
  rintro e w9 ⟨rfl, hK9⟩
  go_wp2_with fail
  go_ret
  exact ⟨rfl, k2.trans hK9⟩

set_option maxRecDepth 100000 in
set_option maxHeartbeats 1000000 in
theorem holds_4 (R m k : Int) (A A2 : Option Addr) (c c2 : Nat) (ls : List Lk) (os : List Int) (w : World) (hR : Rd w 3 Lk.enc A ls) (hn : ls.length ≤ 30) (hO : Rd w 1 intE A2 os) (ho : os.length ≤ 12) (he : ownersErr R ls os = 0) (hm : m < 0) :
    Calls Try.prog 6 (holdsArgs R m k A A2 c c2 ls os) w fun e w' => e = .returned (.bool true) ∧ Kp w w' := by
  have H := Lib.hid (few_yes hn)
  have He := Lib.hid he; clear he
  go_enter Try.func6, Try.ntmps6
  go_wp2_with fail
  refine (few_any R A ls.length c _).mono ?_
  rintro e w1 ⟨rfl, hK1⟩
  rw [H.out]
  have k1 : Kp w w1 := ((Kp.refl _).alloc _).trans hK1
  have G1 : Blk w1 w.heap.size 24 #[.int .i64 R, .slice A ls.length c] := (Blk.new w _ _).keep hK1
  have g0 : w1.cell? ⟨w.heap.size, 0, none⟩ = some (.int .i64 R) := G1.cell 0
  have g1 : w1.cell? ⟨w.heap.size, 1, none⟩ = some (.slice A ls.length c) := G1.cell 1
  go_wp2_with fail
  refine (rowners_any R A A2 c c2 ls os _ (hR.keep k1) hn (hO.keep k1) (by omega)).mono ?_
  rintro e w2 ⟨rfl, hK2⟩
  have k2 := k1.trans hK2
  have G2 := G1.keep hK2
  clear g0 g1 G1
  have g0 : w2.cell? ⟨w.heap.size, 0, none⟩ = some (.int .i64 R) := G2.cell 0
  rw [He.out]
  go_wp2_with fail
  refine (works_any _).mono ?_
  rintro e w9 ⟨rfl, hK9⟩
  go_wp2_with fail
  go_ret
  exact ⟨rfl, k2.trans hK9⟩

set_option maxRecDepth 100000 in
set_option maxHeartbeats 1000000 in
theorem holds_5 (R m k : Int) (A A2 : Option Addr) (c c2 : Nat) (ls : List Lk) (os : List Int) (w : World) (hR : Rd w 3 Lk.enc A ls) (hn : ls.length ≤ 30) (hO : Rd w 1 intE A2 os) (ho : os.length ≤ 12) (he : ownersErr R ls os = 0) (hm : 0 ≤ m) (hm2 : R ≤ m) :
    Calls Try.prog 6 (holdsArgs R m k A A2 c c2 ls os) w fun e w' => e = .returned (.bool true) ∧ Kp w w' := by
  have H := Lib.hid (few_yes hn)
  have He := Lib.hid he; clear he
  go_enter Try.func6, Try.ntmps6
  go_wp2_with fail
  refine (few_any R A ls.length c _).mono ?_
  rintro e w1 ⟨rfl, hK1⟩
  rw [H.out]
  have k1 : Kp w w1 := ((Kp.refl _).alloc _).trans hK1
  have G1 : Blk w1 w.heap.size 24 #[.int .i64 R, .slice A ls.length c] := (Blk.new w _ _).keep hK1
  have g0 : w1.cell? ⟨w.heap.size, 0, none⟩ = some (.int .i64 R) := G1.cell 0
  have g1 : w1.cell? ⟨w.heap.size, 1, none⟩ = some (.slice A ls.length c) := G1.cell 1
  go_wp2_with fail
  refine (rowners_any R A A2 c c2 ls os _ (hR.keep k1) hn (hO.keep k1) (by omega)).mono ?_
  rintro e w2 ⟨rfl, hK2⟩
  have k2 := k1.trans hK2
  have G2 := G1.keep hK2
  clear g0 g1 G1
  have g0 : w2.cell? ⟨w.heap.size, 0, none⟩ = some (.int .i64 R) := G2.cell 0
  rw [He.out]
  go_wp2_with fail
  refine (works_any _).mono ?_
  rintro e w9 ⟨rfl, hK9⟩
  go_wp2_with fail
  go_ret
  exact ⟨rfl, k2.trans hK9⟩

theorem graphHolds_any (R m k : Int) (A A2 : Option Addr) (c c2 : Nat) (ls : List Lk) (os : List Int) (w : World) (hR : Rd w 3 Lk.enc A ls) (hO : Rd w 1 intE A2 os) :
    Calls Try.prog 6 (holdsArgs R m k A A2 c c2 ls os) w fun e w' => e = .returned (.bool true) ∧ Kp w w' := by
  by_cases hn : ls.length ≤ 30
  · by_cases ho : os.length ≤ 12
    · by_cases he : ownersErr R ls os = 0
      · by_cases hm : m < 0
        · exact holds_4 R m k A A2 c c2 ls os w hR hn hO ho he hm
        · by_cases hm2 : R ≤ m
          · exact holds_5 R m k A A2 c c2 ls os w hR hn hO ho he (by omega) hm2
          · have h20 := right_20 (ownersErr_zero he).1
            obtain ⟨n, rfl⟩ := Int.eq_ofNat_of_zero_le (show 0 ≤ R by omega)
            exact holds_main n m k A A2 c c2 ls os w hR hn hO ho he (by omega) (by omega)
      · exact holds_3 R m k A A2 c c2 ls os w hR hn hO ho he
    · exact holds_2 R m k A A2 c c2 ls os w hn ho
  · exact holds_1 R m k A A2 c c2 ls os w hn
end Go.Proofs.Ytgnhhhcelfaliaa
