/- Layer 2's small functions: what each call returns. No condition but the stated bounds. -/
import Derived.Test.YtgnhhhcelfaliaaRows
import Derived.Test.YtgnhhhcelfaliaaBase
namespace Go.Proofs.Ytgnhhhcelfaliaa
open Go.RowKit

/-- The mask of so many bits. -/
def maskI (n : Int) : Int := 4294967295 * 2 ^ (32 - n).toNat % 4294967296
/-- An address cut by a mask. -/
def cutI (a n : Int) : Int := bits .and .u32 a (maskI n)

set_option maxHeartbeats 400000 in
theorem mask_any (n : Int) (w : World) (h0 : 0 ≤ n) (h1 : n ≤ 32) :
    Calls Try.prog 60 #[.int .i64 n] w fun e w' => e = .returned (.int .u32 (maskI n)) ∧ w = w' := by
  go_enter Try.func60, Try.ntmps60
  go_wp2
  go_ret
  exact ⟨rfl, rfl⟩

set_option maxHeartbeats 400000 in
theorem of_ok (a n : Int) (w : World) (h0 : 0 ≤ n) (h1 : n ≤ 32) :
    Calls Try.prog 46 #[.int .u32 a, .int .i64 n] w fun e w' => e = .returned (.tuple #[.agg #[.int .u32 (cutI a n), .int .i64 n], .int .i64 0]) ∧ Kp w w' := by
  have hd : decide (n < 0) = false := by simp; omega
  go_enter Try.func46, Try.ntmps46
  go_wp2_with fail
  refine wp_scope_fwd 0 rfl ?_
  go_wp2_with fail
  refine (mask_any n _ h0 h1).mono ?_
  rintro e w1 ⟨rfl, rfl⟩
  have H := Lib.hid (show cutI a n = bits .and .u32 a (maskI n) from rfl)
  generalize hm : maskI n = m at *
  go_wp2_with fail
  refine jump_ret ?_
  refine bodyPost_ret (v := .tuple #[.agg #[.int .u32 (bits .and .u32 a m), .int .i64 n], .int .i64 0]) (by simp [results, Try.results46, go_sem]) rfl ⟨by rw [H.out], by unfold Kp; go_grown⟩

set_option maxHeartbeats 400000 in
theorem of_no (a n : Int) (w : World) (h : n < 0 ∨ 32 < n) :
    Calls Try.prog 46 #[.int .u32 a, .int .i64 n] w fun e w' => e = .returned (.tuple #[.agg #[.int .u32 0, .int .i64 0], .int .i64 2]) ∧ Kp w w' := by
  by_cases h0 : n < 0
  · go_enter Try.func46, Try.ntmps46
    go_wp2_with fail
    refine wp_scope_fwd 0 rfl ?_
    go_wp2_with fail
    go_step3
    refine ⟨rfl, ?_⟩
    go_wp2_with fail
    refine noGoto_ret ?_
    refine bodyPost_ret (v := .tuple #[.agg #[.int .u32 0, .int .i64 0], .int .i64 2]) (by simp [results, Try.results46, go_sem]) rfl ⟨rfl, by unfold Kp; go_grown⟩
  · have hd : decide (n < 0) = false := by simp; omega
    go_enter Try.func46, Try.ntmps46
    go_wp2_with fail
    refine wp_scope_fwd 0 rfl ?_
    go_wp2_with fail
    go_step3
    refine ⟨rfl, ?_⟩
    go_wp2_with fail
    refine noGoto_ret ?_
    refine bodyPost_ret (v := .tuple #[.agg #[.int .u32 0, .int .i64 0], .int .i64 2]) (by simp [results, Try.results46, go_sem]) rfl ⟨rfl, by unfold Kp; go_grown⟩
end Go.Proofs.Ytgnhhhcelfaliaa
