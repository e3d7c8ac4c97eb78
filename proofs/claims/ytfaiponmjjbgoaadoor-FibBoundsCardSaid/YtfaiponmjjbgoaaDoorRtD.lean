/- route.Check, whole. -/
import Derived.Test.YtfaiponmjjbgoaaDoorRtC
namespace Go.Proofs.YtfaiponmjjbgoaaDoor
open Go.RowKit

theorem call_st1 (args : Array Value) (w : World) : (callFunc 28 args).run Tryd.prog w = .ok (.enter 28 args) w := by kernel_rfl
theorem call_st2 (args : Array Value) (w : World) : (callFunc 31 args).run Tryd.prog w = .ok (.enter 31 args) w := by kernel_rfl
theorem call_st3 (args : Array Value) (w : World) : (callFunc 32 args).run Tryd.prog w = .ok (.enter 32 args) w := by kernel_rfl
theorem call_st4 (args : Array Value) (w : World) : (callFunc 35 args).run Tryd.prog w = .ok (.enter 35 args) w := by kernel_rfl
theorem call_st5 (args : Array Value) (w : World) : (callFunc 36 args).run Tryd.prog w = .ok (.enter 36 args) w := by kernel_rfl

theorem checkR_any (r : Rt) (w : World) (ha : r.p.a < 4294967296) (hx : r.x < 4294967296) : Calls Tryd.prog 15 #[.agg #[.int .u32 r.p.a, .int .i64 r.p.l, .int .i64 r.s, .int .i64 r.m, .int .i64 r.l, .int .i64 r.f, .int .u32 r.x, .int .i64 r.d, .bool r.c]] w fun e w' => e = .returned (.int .i64 (checkR r)) ∧ Kp w w' := by
  have hf := find_st r.s
  by_cases h0 : r.s = 0
  · have hb : stateB r = (hasB r 0 0 && (nowB r && !r.c)) := by simp [stateB, h0]
    refine (check_hit r 0 28 (hasB r 0 0 && (nowB r && !r.c)) w ha (by rw [hf]; simp [h0, stV, stFn]) call_st1 (fun w => st1_any r w)).mono ?_
    rintro e w' ⟨rfl, hK⟩
    exact ⟨by simp only [checkR, hb], hK⟩
  by_cases h1 : r.s = 1
  · have hb : stateB r = (hasB r 1 0 && nowB r) := by simp [stateB, h1]
    refine (check_hit r 1 31 (hasB r 1 0 && nowB r) w ha (by rw [hf]; simp [h1, stV, stFn]) call_st2 (fun w => st2_any r w)).mono ?_
    rintro e w' ⟨rfl, hK⟩
    exact ⟨by simp only [checkR, hb], hK⟩
  by_cases h2 : r.s = 2
  · have hb : stateB r = (withB 2 15 r.m && (hasB r r.m 0 && someB r)) := by simp [stateB, h2]
    refine (check_hit r 2 32 (withB 2 15 r.m && (hasB r r.m 0 && someB r)) w ha (by rw [hf]; simp [h2, stV, stFn]) call_st3 (fun w => st3_any r w hx)).mono ?_
    rintro e w' ⟨rfl, hK⟩
    exact ⟨by simp only [checkR, hb], hK⟩
  by_cases h3 : r.s = 3
  · have hb : stateB r = (withB 2 15 r.l && (hasB r 16 r.l && someB r)) := by simp [stateB, h3]
    refine (check_hit r 3 35 (withB 2 15 r.l && (hasB r 16 r.l && someB r)) w ha (by rw [hf]; simp [h3, stV, stFn]) call_st4 (fun w => st4_any r w hx)).mono ?_
    rintro e w' ⟨rfl, hK⟩
    exact ⟨by simp only [checkR, hb], hK⟩
  by_cases h4 : r.s = 4
  · have hb : stateB r = (hasB r 16 0 && someB r) := by simp [stateB, h4]
    refine (check_hit r 4 36 (hasB r 16 0 && someB r) w ha (by rw [hf]; simp [h4, stV, stFn]) call_st5 (fun w => st5_any r w hx)).mono ?_
    rintro e w' ⟨rfl, hK⟩
    exact ⟨by simp only [checkR, hb], hK⟩
  have hb : stateB r = false := by simp [stateB, h0, h1, h2, h3, h4]
  simp only [h0, h1, h2, h3, h4, if_false] at hf
  refine (check_miss r w hf).mono ?_
  rintro e w' ⟨rfl, hK⟩
  exact ⟨by simp [checkR, hb], hK⟩
end Go.Proofs.YtfaiponmjjbgoaaDoor
