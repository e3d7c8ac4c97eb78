/- GraphChecks: the ways out, and the whole. -/
import Derived.Test.YtgnhhhcelfaliaaGraph5
namespace Go.Proofs.Ytgnhhhcelfaliaa
open Go.RowKit

set_option maxRecDepth 100000 in
set_option maxHeartbeats 1000000 in
theorem checks_1 (R S l : Int) (up : Bool) (A A2 : Option Addr) (c c2 : Nat) (ls ls2 : List Lk) (w : World) (hn : ¬ ls.length ≤ 30) :
    Calls Try.prog 7 #[.agg #[.int .i64 R, .slice A ls.length c], .agg #[.int .i64 S, .slice A2 ls2.length c2], .int .i64 l, .bool up] w fun e w' => e = .returned (.bool true) ∧ Kp w w' := by
  have H := Lib.hid (few_no hn); clear hn
  go_enter Try.func7, Try.ntmps7
  go_wp2_with fail
  refine (few_any R A ls.length c _).mono ?_
  rintro e w1 ⟨rfl, hK1⟩
  rw [H.out]
  go_wp2_with fail
  refine (works_any _).mono ?_
  rintro e w2 ⟨rfl, hK2⟩
  go_wp2_with fail
  go_ret
  exact ⟨rfl, (((Kp.refl _).alloc _).alloc _).trans (hK1.trans hK2)⟩

set_option maxRecDepth 100000 in
set_option maxHeartbeats 1000000 in
theorem checks_2 (R S l : Int) (up : Bool) (A A2 : Option Addr) (c c2 : Nat) (ls ls2 : List Lk) (w : World) (hn : ls.length ≤ 30) (hn2 : ¬ ls2.length ≤ 30) :
    Calls Try.prog 7 #[.agg #[.int .i64 R, .slice A ls.length c], .agg #[.int .i64 S, .slice A2 ls2.length c2], .int .i64 l, .bool up] w fun e w' => e = .returned (.bool true) ∧ Kp w w' := by
  have H := Lib.hid (few_yes hn); clear hn
  have H2 := Lib.hid (few_no hn2); clear hn2
  go_enter Try.func7, Try.ntmps7
  go_wp2_with fail
  refine (few_any R A ls.length c _).mono ?_
  rintro e w1 ⟨rfl, hK1⟩
  rw [H.out]
  have G2 : Blk w1 (w.heap.size + 1) 24 #[.int .i64 S, .slice A2 ls2.length c2] := (Blk.new1 w _ _ _).keep hK1
  have g2 : w1.cell? ⟨w.heap.size + 1, 0, none⟩ = some (.int .i64 S) := G2.cell 0
  have g3 : w1.cell? ⟨w.heap.size + 1, 1, none⟩ = some (.slice A2 ls2.length c2) := G2.cell 1
  go_wp2_with fail
  refine (few_any S A2 ls2.length c2 _).mono ?_
  rintro e w2 ⟨rfl, hK2⟩
  rw [H2.out]
  go_wp2_with fail
  refine (works_any _).mono ?_
  rintro e w3 ⟨rfl, hK3⟩
  go_wp2_with fail
  go_ret
  exact ⟨rfl, (((Kp.refl _).alloc _).alloc _).trans (hK1.trans (hK2.trans hK3))⟩

theorem graphChecks_any (R S l : Int) (up : Bool) (A A2 : Option Addr) (c c2 : Nat) (ls ls2 : List Lk) (w : World) (hR : Rd w 3 Lk.enc A ls) (hR2 : Rd w 3 Lk.enc A2 ls2) :
    Calls Try.prog 7 #[.agg #[.int .i64 R, .slice A ls.length c], .agg #[.int .i64 S, .slice A2 ls2.length c2], .int .i64 l, .bool up] w fun e w' => e = .returned (.bool true) ∧ Kp w w' := by
  by_cases hn : ls.length ≤ 30
  · by_cases hn2 : ls2.length ≤ 30
    · cases hr : right R ls with
      | false => exact checks_a R S l up A A2 c c2 ls ls2 w hR hn hR2 hn2 hr
      | true =>
        by_cases hl : l < 0 ∨ (ls.length : Int) ≤ l
        · exact checks_b R S l up A A2 c c2 ls ls2 w hR hn hR2 hn2 hr hl
        · obtain ⟨k, rfl⟩ := Int.eq_ofNat_of_zero_le (show 0 ≤ l by omega)
          exact checks_c R S k up A A2 c c2 ls ls2 w hR hn hR2 hn2 hr (by omega)
    · exact checks_2 R S l up A A2 c c2 ls ls2 w hn hn2
  · exact checks_1 R S l up A A2 c c2 ls ls2 w hn
end Go.Proofs.Ytgnhhhcelfaliaa
