/- Lemmas and contracts for the theorem of this claim: VRtA. -/
import Derived.Test.YtffckpkikdlbpaaGreatDoorZtAe
set_option linter.unusedSimpArgs false
set_option linter.unusedVariables false
namespace Go.Proofs.YtffckpkikdlbpaaGreatDoor
open Go.RowKit
structure Rt where
  p : PI
  s : Int
  m : Int
  l : Int
  f : Int
  x : Nat
  d : Int
  c : Bool
def Rt.enc (r : Rt) : List Value := [.int .u32 r.p.a, .int .i64 r.p.l, .int .i64 r.s, .int .i64 r.m, .int .i64 r.l, .int .i64 r.f, .int .u32 r.x, .int .i64 r.d, .bool r.c]
theorem Rt.len (r : Rt) : r.enc.length = 9 := rfl
def toldB (p : PI) : Bool := p.okB && !badKind p.a p.l.toNat
def hasB (r : Rt) (m l : Int) : Bool := (r.m == m) && (r.l == l)
def nowB (r : Rt) : Bool := (r.f == 0) && (((r.x : Int) == 0) && (r.d == 0))
def withB (lo hi n : Int) : Bool := !(decide (n < lo)) && !(decide (hi < n))
def mayB (f : Int) (x : Nat) : Bool := withB 0 15 f && ((kindAd x : Int) == 6)
def someB (r : Rt) : Bool := mayB r.f r.x && withB 0 4611686018427387904 r.d
def stateB (r : Rt) : Bool :=
  if r.s = 0 then hasB r 0 0 && (nowB r && !r.c)
  else if r.s = 1 then hasB r 1 0 && nowB r
  else if r.s = 2 then withB 2 15 r.m && (hasB r r.m 0 && someB r)
  else if r.s = 3 then withB 2 15 r.l && (hasB r 16 r.l && someB r)
  else if r.s = 4 then hasB r 16 0 && someB r
  else false
def checkR (r : Rt) : Int := if stateB r && toldB r.p then 0 else 2
set_option maxRecDepth 100000 in
set_option maxHeartbeats 1000000 in
theorem within_int (lo hi n : Int) (g : Nat) (w : World) (hB : Blk w g 3 #[.int .i64 n]) : Calls Tryz.prog 141 #[.int .i64 lo, .int .i64 hi, .slice (some ⟨g, 0, none⟩) 1 1] w fun e w' => e = .returned (.bool (withB lo hi n)) ∧ w = w' := by
  have c0 : w.cell? ⟨g, 0, none⟩ = some (.int .i64 n) := hB.cell 0
  clear hB
  go_enter Tryz.func141, Tryz.ntmps141
  go_wp2_with fail
  go_loop [11] (fun i => ∃ k : Nat, k ≤ 1 ∧ i = .int .i64 k ∧ Hid (k = 1 → withB lo hi n = true)) (fun i => 1 - (intOf i).toNat)
  case atStart => exact ⟨0, by omega, rfl, fun h => absurd h (by omega)⟩
  case round =>
    obtain ⟨k, hk, rfl, hall⟩ := hrel
    have hk2 : k = 0 ∨ k = 1 := by omega
    rcases hk2 with rfl | rfl
    · cases h1 : decide (n < lo) with
      | true =>
        have H := Lib.hid (show withB lo hi n = false by simp only [withB, h1]; rfl)
        go_wp2_with fail
        go_ret
        exact ⟨by rw [H.out]; rfl, rfl⟩
      | false =>
        cases h2 : decide (hi < n) with
        | true =>
          have H := Lib.hid (show withB lo hi n = false by simp only [withB, h1, h2]; rfl)
          go_wp2_with fail
          go_ret
          exact ⟨by rw [H.out]; rfl, rfl⟩
        | false =>
          have H := Lib.hid (show withB lo hi n = true by simp only [withB, h1, h2]; rfl)
          go_wp2_with fail
          go_round
          case rel => exact ⟨1, by omega, by go_num, fun _ => H.out⟩
          case measure => simp [intOf] <;> omega
    · have H := Lib.hid (hall.out rfl)
      clear hall
      go_wp2_with fail
      go_ret
      exact ⟨by rw [H.out]; rfl, rfl⟩
set_option maxRecDepth 100000 in
set_option maxHeartbeats 1000000 in
theorem within_int64 (lo hi n : Int) (g : Nat) (w : World) (hB : Blk w g 2 #[.int .i64 n]) : Calls Tryz.prog 142 #[.int .i64 lo, .int .i64 hi, .slice (some ⟨g, 0, none⟩) 1 1] w fun e w' => e = .returned (.bool (withB lo hi n)) ∧ w = w' := by
  have c0 : w.cell? ⟨g, 0, none⟩ = some (.int .i64 n) := hB.cell 0
  clear hB
  go_enter Tryz.func142, Tryz.ntmps142
  go_wp2_with fail
  go_loop [11] (fun i => ∃ k : Nat, k ≤ 1 ∧ i = .int .i64 k ∧ Hid (k = 1 → withB lo hi n = true)) (fun i => 1 - (intOf i).toNat)
  case atStart => exact ⟨0, by omega, rfl, fun h => absurd h (by omega)⟩
  case round =>
    obtain ⟨k, hk, rfl, hall⟩ := hrel
    have hk2 : k = 0 ∨ k = 1 := by omega
    rcases hk2 with rfl | rfl
    · cases h1 : decide (n < lo) with
      | true =>
        have H := Lib.hid (show withB lo hi n = false by simp only [withB, h1]; rfl)
        go_wp2_with fail
        go_ret
        exact ⟨by rw [H.out]; rfl, rfl⟩
      | false =>
        cases h2 : decide (hi < n) with
        | true =>
          have H := Lib.hid (show withB lo hi n = false by simp only [withB, h1, h2]; rfl)
          go_wp2_with fail
          go_ret
          exact ⟨by rw [H.out]; rfl, rfl⟩
        | false =>
          have H := Lib.hid (show withB lo hi n = true by simp only [withB, h1, h2]; rfl)
          go_wp2_with fail
          go_round
          case rel => exact ⟨1, by omega, by go_num, fun _ => H.out⟩
          case measure => simp [intOf] <;> omega
    · have H := Lib.hid (hall.out rfl)
      clear hall
      go_wp2_with fail
      go_ret
      exact ⟨by rw [H.out]; rfl, rfl⟩
set_option maxRecDepth 100000 in
set_option maxHeartbeats 1000000 in
theorem hasR_any (r : Rt) (m l : Int) (w : World) : Calls Tryz.prog 172 #[.agg #[.int .u32 r.p.a, .int .i64 r.p.l, .int .i64 r.s, .int .i64 r.m, .int .i64 r.l, .int .i64 r.f, .int .u32 r.x, .int .i64 r.d, .bool r.c], .int .i64 m, .int .i64 l] w fun e w' => e = .returned (.bool (hasB r m l)) ∧ Kp w w' := by
  obtain ⟨W, hW, kW, B0⟩ : ∃ W, w.alloc (.cells #[.int .u32 r.p.a, .int .i64 r.p.l, .int .i64 r.s, .int .i64 r.m, .int .i64 r.l, .int .i64 r.f, .int .u32 r.x, .int .i64 r.d, .bool r.c] 170) = W ∧ Kp w W ∧ Blk W w.heap.size 170 #[.int .u32 r.p.a, .int .i64 r.p.l, .int .i64 r.s, .int .i64 r.m, .int .i64 r.l, .int .i64 r.f, .int .u32 r.x, .int .i64 r.d, .bool r.c] := ⟨_, rfl, (Kp.refl _).alloc _, Blk.new w _ _⟩
  have c0 : W.cell? ⟨w.heap.size, 0, none⟩ = some (.int .u32 r.p.a) := B0.cell 0
  have c1 : W.cell? ⟨w.heap.size, 1, none⟩ = some (.int .i64 r.p.l) := B0.cell 1
  have c2 : W.cell? ⟨w.heap.size, 2, none⟩ = some (.int .i64 r.s) := B0.cell 2
  have c3 : W.cell? ⟨w.heap.size, 3, none⟩ = some (.int .i64 r.m) := B0.cell 3
  have c4 : W.cell? ⟨w.heap.size, 4, none⟩ = some (.int .i64 r.l) := B0.cell 4
  have c5 : W.cell? ⟨w.heap.size, 5, none⟩ = some (.int .i64 r.f) := B0.cell 5
  have c6 : W.cell? ⟨w.heap.size, 6, none⟩ = some (.int .u32 r.x) := B0.cell 6
  have c7 : W.cell? ⟨w.heap.size, 7, none⟩ = some (.int .i64 r.d) := B0.cell 7
  have c8 : W.cell? ⟨w.heap.size, 8, none⟩ = some (.bool r.c) := B0.cell 8
  cases h1 : (r.m == m) with
  | true =>
    have H := Lib.hid (show hasB r m l = (r.l == l) by simp only [hasB, h1, Bool.true_and])
    go_enter Tryz.func172, Tryz.ntmps172
    go_wp2_with fail
    go_ret
    exact ⟨by rw [H.out]; rfl, kW⟩
  | false =>
    have H := Lib.hid (show hasB r m l = false by simp only [hasB, h1, Bool.false_and])
    go_enter Tryz.func172, Tryz.ntmps172
    go_wp2_with fail
    go_ret
    exact ⟨by rw [H.out]; rfl, kW⟩
set_option maxRecDepth 100000 in
set_option maxHeartbeats 1000000 in
theorem nowhere_any (r : Rt) (w : World) : Calls Tryz.prog 173 #[.agg #[.int .u32 r.p.a, .int .i64 r.p.l, .int .i64 r.s, .int .i64 r.m, .int .i64 r.l, .int .i64 r.f, .int .u32 r.x, .int .i64 r.d, .bool r.c]] w fun e w' => e = .returned (.bool (nowB r)) ∧ Kp w w' := by
  obtain ⟨W, hW, kW, B0⟩ : ∃ W, w.alloc (.cells #[.int .u32 r.p.a, .int .i64 r.p.l, .int .i64 r.s, .int .i64 r.m, .int .i64 r.l, .int .i64 r.f, .int .u32 r.x, .int .i64 r.d, .bool r.c] 170) = W ∧ Kp w W ∧ Blk W w.heap.size 170 #[.int .u32 r.p.a, .int .i64 r.p.l, .int .i64 r.s, .int .i64 r.m, .int .i64 r.l, .int .i64 r.f, .int .u32 r.x, .int .i64 r.d, .bool r.c] := ⟨_, rfl, (Kp.refl _).alloc _, Blk.new w _ _⟩
  have c0 : W.cell? ⟨w.heap.size, 0, none⟩ = some (.int .u32 r.p.a) := B0.cell 0
  have c1 : W.cell? ⟨w.heap.size, 1, none⟩ = some (.int .i64 r.p.l) := B0.cell 1
  have c2 : W.cell? ⟨w.heap.size, 2, none⟩ = some (.int .i64 r.s) := B0.cell 2
  have c3 : W.cell? ⟨w.heap.size, 3, none⟩ = some (.int .i64 r.m) := B0.cell 3
  have c4 : W.cell? ⟨w.heap.size, 4, none⟩ = some (.int .i64 r.l) := B0.cell 4
  have c5 : W.cell? ⟨w.heap.size, 5, none⟩ = some (.int .i64 r.f) := B0.cell 5
  have c6 : W.cell? ⟨w.heap.size, 6, none⟩ = some (.int .u32 r.x) := B0.cell 6
  have c7 : W.cell? ⟨w.heap.size, 7, none⟩ = some (.int .i64 r.d) := B0.cell 7
  have c8 : W.cell? ⟨w.heap.size, 8, none⟩ = some (.bool r.c) := B0.cell 8
  cases h1 : (r.f == 0) with
  | true =>
    cases h2 : ((r.x : Int) == 0) with
    | true =>
      have H := Lib.hid (show nowB r = (r.d == 0) by simp only [nowB, h1, h2, Bool.true_and])
      go_enter Tryz.func173, Tryz.ntmps173
      go_wp2_with fail
      go_ret
      exact ⟨by rw [H.out]; rfl, kW⟩
    | false =>
      have H := Lib.hid (show nowB r = false by simp only [nowB, h1, h2, Bool.true_and, Bool.false_and])
      go_enter Tryz.func173, Tryz.ntmps173
      go_wp2_with fail
      go_ret
      exact ⟨by rw [H.out]; rfl, kW⟩
  | false =>
    have H := Lib.hid (show nowB r = false by simp only [nowB, h1, Bool.false_and])
    go_enter Tryz.func173, Tryz.ntmps173
    go_wp2_with fail
    go_ret
    exact ⟨by rw [H.out]; rfl, kW⟩
set_option maxRecDepth 100000 in
set_option maxHeartbeats 1000000 in
theorem mayCome_any (f : Int) (x : Nat) (w : World) (hx : x < 4294967296) : Calls Tryz.prog 140 #[.int .i64 f, .int .u32 x] w fun e w' => e = .returned (.bool (mayB f x)) ∧ Kp w w' := by
  go_enter Tryz.func140, Tryz.ntmps140
  go_wp2_with fail
  refine (within_int 0 15 f w.heap.size _ (Blk.new w _ _)).mono ?_
  rintro e w1 ⟨rfl, rfl⟩
  cases h1 : withB 0 15 f with
  | true =>
    have H := Lib.hid (show mayB f x = ((kindAd x : Int) == 6) by simp only [mayB, h1, Bool.true_and])
    go_wp2_with fail
    refine (kindAd_any x _ hx).mono ?_
    rintro e w2 ⟨rfl, hK2⟩
    go_wp2_with fail
    go_ret
    exact ⟨by rw [H.out]; rfl, ((Kp.refl _).alloc _).trans hK2⟩
  | false =>
    have H := Lib.hid (show mayB f x = false by simp only [mayB, h1, Bool.false_and])
    go_wp2_with fail
    go_ret
    exact ⟨by rw [H.out]; rfl, (Kp.refl _).alloc _⟩
set_option maxRecDepth 100000 in
set_option maxHeartbeats 1000000 in
theorem some_any (r : Rt) (w : World) (hx : r.x < 4294967296) : Calls Tryz.prog 176 #[.agg #[.int .u32 r.p.a, .int .i64 r.p.l, .int .i64 r.s, .int .i64 r.m, .int .i64 r.l, .int .i64 r.f, .int .u32 r.x, .int .i64 r.d, .bool r.c]] w fun e w' => e = .returned (.bool (someB r)) ∧ Kp w w' := by
  obtain ⟨W, hW, kW, B0⟩ : ∃ W, w.alloc (.cells #[.int .u32 r.p.a, .int .i64 r.p.l, .int .i64 r.s, .int .i64 r.m, .int .i64 r.l, .int .i64 r.f, .int .u32 r.x, .int .i64 r.d, .bool r.c] 170) = W ∧ Kp w W ∧ Blk W w.heap.size 170 #[.int .u32 r.p.a, .int .i64 r.p.l, .int .i64 r.s, .int .i64 r.m, .int .i64 r.l, .int .i64 r.f, .int .u32 r.x, .int .i64 r.d, .bool r.c] := ⟨_, rfl, (Kp.refl _).alloc _, Blk.new w _ _⟩
  have c0 : W.cell? ⟨w.heap.size, 0, none⟩ = some (.int .u32 r.p.a) := B0.cell 0
  have c1 : W.cell? ⟨w.heap.size, 1, none⟩ = some (.int .i64 r.p.l) := B0.cell 1
  have c2 : W.cell? ⟨w.heap.size, 2, none⟩ = some (.int .i64 r.s) := B0.cell 2
  have c3 : W.cell? ⟨w.heap.size, 3, none⟩ = some (.int .i64 r.m) := B0.cell 3
  have c4 : W.cell? ⟨w.heap.size, 4, none⟩ = some (.int .i64 r.l) := B0.cell 4
  have c5 : W.cell? ⟨w.heap.size, 5, none⟩ = some (.int .i64 r.f) := B0.cell 5
  have c6 : W.cell? ⟨w.heap.size, 6, none⟩ = some (.int .u32 r.x) := B0.cell 6
  have c7 : W.cell? ⟨w.heap.size, 7, none⟩ = some (.int .i64 r.d) := B0.cell 7
  have c8 : W.cell? ⟨w.heap.size, 8, none⟩ = some (.bool r.c) := B0.cell 8
  go_enter Tryz.func176, Tryz.ntmps176
  go_wp2_with fail
  refine (mayCome_any r.f r.x _ hx).mono ?_
  rintro e w1 ⟨rfl, hK1⟩
  have k1 := kW.trans hK1
  have B1 := B0.keep hK1
  have d7 : w1.cell? ⟨w.heap.size, 7, none⟩ = some (.int .i64 r.d) := B1.cell 7
  clear hW c0 c1 c2 c3 c4 c5 c6 c7 c8
  cases h1 : mayB r.f r.x with
  | true =>
    have H := Lib.hid (show someB r = withB 0 4611686018427387904 r.d by simp only [someB, h1, Bool.true_and])
    go_wp2_with fail
    refine (within_int64 0 4611686018427387904 r.d w1.heap.size _ (Blk.new w1 _ _)).mono ?_
    rintro e w2 ⟨rfl, rfl⟩
    go_wp2_with fail
    go_ret
    exact ⟨by rw [H.out]; rfl, k1.alloc _⟩
  | false =>
    have H := Lib.hid (show someB r = false by simp only [someB, h1, Bool.false_and])
    go_wp2_with fail
    go_ret
    exact ⟨by rw [H.out]; rfl, k1⟩
set_option maxRecDepth 100000 in
set_option maxHeartbeats 1000000 in
theorem st1_any (r : Rt) (w : World) : Calls Tryz.prog 171 #[.agg #[.int .u32 r.p.a, .int .i64 r.p.l, .int .i64 r.s, .int .i64 r.m, .int .i64 r.l, .int .i64 r.f, .int .u32 r.x, .int .i64 r.d, .bool r.c]] w fun e w' => e = .returned (.bool (hasB r 0 0 && (nowB r && !r.c))) ∧ Kp w w' := by
  obtain ⟨W, hW, kW, B0⟩ : ∃ W, w.alloc (.cells #[.int .u32 r.p.a, .int .i64 r.p.l, .int .i64 r.s, .int .i64 r.m, .int .i64 r.l, .int .i64 r.f, .int .u32 r.x, .int .i64 r.d, .bool r.c] 170) = W ∧ Kp w W ∧ Blk W w.heap.size 170 #[.int .u32 r.p.a, .int .i64 r.p.l, .int .i64 r.s, .int .i64 r.m, .int .i64 r.l, .int .i64 r.f, .int .u32 r.x, .int .i64 r.d, .bool r.c] := ⟨_, rfl, (Kp.refl _).alloc _, Blk.new w _ _⟩
  have c0 : W.cell? ⟨w.heap.size, 0, none⟩ = some (.int .u32 r.p.a) := B0.cell 0
  have c1 : W.cell? ⟨w.heap.size, 1, none⟩ = some (.int .i64 r.p.l) := B0.cell 1
  have c2 : W.cell? ⟨w.heap.size, 2, none⟩ = some (.int .i64 r.s) := B0.cell 2
  have c3 : W.cell? ⟨w.heap.size, 3, none⟩ = some (.int .i64 r.m) := B0.cell 3
  have c4 : W.cell? ⟨w.heap.size, 4, none⟩ = some (.int .i64 r.l) := B0.cell 4
  have c5 : W.cell? ⟨w.heap.size, 5, none⟩ = some (.int .i64 r.f) := B0.cell 5
  have c6 : W.cell? ⟨w.heap.size, 6, none⟩ = some (.int .u32 r.x) := B0.cell 6
  have c7 : W.cell? ⟨w.heap.size, 7, none⟩ = some (.int .i64 r.d) := B0.cell 7
  have c8 : W.cell? ⟨w.heap.size, 8, none⟩ = some (.bool r.c) := B0.cell 8
  go_enter Tryz.func171, Tryz.ntmps171
  go_wp2_with fail
  refine (hasR_any r 0 0 _).mono ?_
  rintro e w1 ⟨rfl, hK1⟩
  have k1 := kW.trans hK1
  have B1 := B0.keep hK1
  clear hW c0 c1 c2 c3 c4 c5 c6 c7 c8
  have c0 : w1.cell? ⟨w.heap.size, 0, none⟩ = some (.int .u32 r.p.a) := B1.cell 0
  have c1 : w1.cell? ⟨w.heap.size, 1, none⟩ = some (.int .i64 r.p.l) := B1.cell 1
  have c2 : w1.cell? ⟨w.heap.size, 2, none⟩ = some (.int .i64 r.s) := B1.cell 2
  have c3 : w1.cell? ⟨w.heap.size, 3, none⟩ = some (.int .i64 r.m) := B1.cell 3
  have c4 : w1.cell? ⟨w.heap.size, 4, none⟩ = some (.int .i64 r.l) := B1.cell 4
  have c5 : w1.cell? ⟨w.heap.size, 5, none⟩ = some (.int .i64 r.f) := B1.cell 5
  have c6 : w1.cell? ⟨w.heap.size, 6, none⟩ = some (.int .u32 r.x) := B1.cell 6
  have c7 : w1.cell? ⟨w.heap.size, 7, none⟩ = some (.int .i64 r.d) := B1.cell 7
  have c8 : w1.cell? ⟨w.heap.size, 8, none⟩ = some (.bool r.c) := B1.cell 8
  cases h1 : hasB r 0 0 with
  | true =>
    go_wp2_with fail
    refine (nowhere_any r _).mono ?_
    rintro e w2 ⟨rfl, hK2⟩
    have k2 := k1.trans hK2
    have B2 := B1.keep hK2
    have f8 : w2.cell? ⟨w.heap.size, 8, none⟩ = some (.bool r.c) := B2.cell 8
    clear c0 c1 c2 c3 c4 c5 c6 c7 c8
    cases h2 : nowB r with
    | true =>
      have H := Lib.hid (show (hasB r 0 0 && (nowB r && !r.c)) = !r.c by simp only [h1, h2, Bool.true_and])
      go_wp2_with fail
      go_ret
      exact ⟨by rw [H.out]; rfl, k2⟩
    | false =>
      have H := Lib.hid (show (hasB r 0 0 && (nowB r && !r.c)) = false by simp only [h1, h2, Bool.true_and, Bool.false_and])
      go_wp2_with fail
      go_ret
      exact ⟨by rw [H.out]; rfl, k2⟩
  | false =>
    have H := Lib.hid (show (hasB r 0 0 && (nowB r && !r.c)) = false by simp only [h1, Bool.false_and])
    go_wp2_with fail
    go_ret
    exact ⟨by rw [H.out]; rfl, k1⟩
set_option maxRecDepth 100000 in
set_option maxHeartbeats 1000000 in
theorem st2_any (r : Rt) (w : World) : Calls Tryz.prog 174 #[.agg #[.int .u32 r.p.a, .int .i64 r.p.l, .int .i64 r.s, .int .i64 r.m, .int .i64 r.l, .int .i64 r.f, .int .u32 r.x, .int .i64 r.d, .bool r.c]] w fun e w' => e = .returned (.bool (hasB r 1 0 && nowB r)) ∧ Kp w w' := by
  obtain ⟨W, hW, kW, B0⟩ : ∃ W, w.alloc (.cells #[.int .u32 r.p.a, .int .i64 r.p.l, .int .i64 r.s, .int .i64 r.m, .int .i64 r.l, .int .i64 r.f, .int .u32 r.x, .int .i64 r.d, .bool r.c] 170) = W ∧ Kp w W ∧ Blk W w.heap.size 170 #[.int .u32 r.p.a, .int .i64 r.p.l, .int .i64 r.s, .int .i64 r.m, .int .i64 r.l, .int .i64 r.f, .int .u32 r.x, .int .i64 r.d, .bool r.c] := ⟨_, rfl, (Kp.refl _).alloc _, Blk.new w _ _⟩
  have c0 : W.cell? ⟨w.heap.size, 0, none⟩ = some (.int .u32 r.p.a) := B0.cell 0
  have c1 : W.cell? ⟨w.heap.size, 1, none⟩ = some (.int .i64 r.p.l) := B0.cell 1
  have c2 : W.cell? ⟨w.heap.size, 2, none⟩ = some (.int .i64 r.s) := B0.cell 2
  have c3 : W.cell? ⟨w.heap.size, 3, none⟩ = some (.int .i64 r.m) := B0.cell 3
  have c4 : W.cell? ⟨w.heap.size, 4, none⟩ = some (.int .i64 r.l) := B0.cell 4
  have c5 : W.cell? ⟨w.heap.size, 5, none⟩ = some (.int .i64 r.f) := B0.cell 5
  have c6 : W.cell? ⟨w.heap.size, 6, none⟩ = some (.int .u32 r.x) := B0.cell 6
  have c7 : W.cell? ⟨w.heap.size, 7, none⟩ = some (.int .i64 r.d) := B0.cell 7
  have c8 : W.cell? ⟨w.heap.size, 8, none⟩ = some (.bool r.c) := B0.cell 8
  go_enter Tryz.func174, Tryz.ntmps174
  go_wp2_with fail
  refine (hasR_any r 1 0 _).mono ?_
  rintro e w1 ⟨rfl, hK1⟩
  have k1 := kW.trans hK1
  have B1 := B0.keep hK1
  clear hW c0 c1 c2 c3 c4 c5 c6 c7 c8
  have c0 : w1.cell? ⟨w.heap.size, 0, none⟩ = some (.int .u32 r.p.a) := B1.cell 0
  have c1 : w1.cell? ⟨w.heap.size, 1, none⟩ = some (.int .i64 r.p.l) := B1.cell 1
  have c2 : w1.cell? ⟨w.heap.size, 2, none⟩ = some (.int .i64 r.s) := B1.cell 2
  have c3 : w1.cell? ⟨w.heap.size, 3, none⟩ = some (.int .i64 r.m) := B1.cell 3
  have c4 : w1.cell? ⟨w.heap.size, 4, none⟩ = some (.int .i64 r.l) := B1.cell 4
  have c5 : w1.cell? ⟨w.heap.size, 5, none⟩ = some (.int .i64 r.f) := B1.cell 5
  have c6 : w1.cell? ⟨w.heap.size, 6, none⟩ = some (.int .u32 r.x) := B1.cell 6
  have c7 : w1.cell? ⟨w.heap.size, 7, none⟩ = some (.int .i64 r.d) := B1.cell 7
  have c8 : w1.cell? ⟨w.heap.size, 8, none⟩ = some (.bool r.c) := B1.cell 8
  cases h1 : hasB r 1 0 with
  | true =>
    go_wp2_with fail
    refine (nowhere_any r _).mono ?_
    rintro e w2 ⟨rfl, hK2⟩
    have k2 := k1.trans hK2
    have H := Lib.hid (show (hasB r 1 0 && nowB r) = nowB r by simp only [h1, Bool.true_and])
    clear c0 c1 c2 c3 c4 c5 c6 c7 c8
    go_wp2_with fail
    go_ret
    exact ⟨by rw [H.out]; rfl, k2⟩
  | false =>
    have H := Lib.hid (show (hasB r 1 0 && nowB r) = false by simp only [h1, Bool.false_and])
    go_wp2_with fail
    go_ret
    exact ⟨by rw [H.out]; rfl, k1⟩
set_option maxRecDepth 100000 in
set_option maxHeartbeats 1000000 in
theorem st5_any (r : Rt) (w : World) (hx : r.x < 4294967296) : Calls Tryz.prog 178 #[.agg #[.int .u32 r.p.a, .int .i64 r.p.l, .int .i64 r.s, .int .i64 r.m, .int .i64 r.l, .int .i64 r.f, .int .u32 r.x, .int .i64 r.d, .bool r.c]] w fun e w' => e = .returned (.bool (hasB r 16 0 && someB r)) ∧ Kp w w' := by
  obtain ⟨W, hW, kW, B0⟩ : ∃ W, w.alloc (.cells #[.int .u32 r.p.a, .int .i64 r.p.l, .int .i64 r.s, .int .i64 r.m, .int .i64 r.l, .int .i64 r.f, .int .u32 r.x, .int .i64 r.d, .bool r.c] 170) = W ∧ Kp w W ∧ Blk W w.heap.size 170 #[.int .u32 r.p.a, .int .i64 r.p.l, .int .i64 r.s, .int .i64 r.m, .int .i64 r.l, .int .i64 r.f, .int .u32 r.x, .int .i64 r.d, .bool r.c] := ⟨_, rfl, (Kp.refl _).alloc _, Blk.new w _ _⟩
  have c0 : W.cell? ⟨w.heap.size, 0, none⟩ = some (.int .u32 r.p.a) := B0.cell 0
  have c1 : W.cell? ⟨w.heap.size, 1, none⟩ = some (.int .i64 r.p.l) := B0.cell 1
  have c2 : W.cell? ⟨w.heap.size, 2, none⟩ = some (.int .i64 r.s) := B0.cell 2
  have c3 : W.cell? ⟨w.heap.size, 3, none⟩ = some (.int .i64 r.m) := B0.cell 3
  have c4 : W.cell? ⟨w.heap.size, 4, none⟩ = some (.int .i64 r.l) := B0.cell 4
  have c5 : W.cell? ⟨w.heap.size, 5, none⟩ = some (.int .i64 r.f) := B0.cell 5
  have c6 : W.cell? ⟨w.heap.size, 6, none⟩ = some (.int .u32 r.x) := B0.cell 6
  have c7 : W.cell? ⟨w.heap.size, 7, none⟩ = some (.int .i64 r.d) := B0.cell 7
  have c8 : W.cell? ⟨w.heap.size, 8, none⟩ = some (.bool r.c) := B0.cell 8
  go_enter Tryz.func178, Tryz.ntmps178
  go_wp2_with fail
  refine (hasR_any r 16 0 _).mono ?_
  rintro e w1 ⟨rfl, hK1⟩
  have k1 := kW.trans hK1
  have B1 := B0.keep hK1
  clear hW c0 c1 c2 c3 c4 c5 c6 c7 c8
  have c0 : w1.cell? ⟨w.heap.size, 0, none⟩ = some (.int .u32 r.p.a) := B1.cell 0
  have c1 : w1.cell? ⟨w.heap.size, 1, none⟩ = some (.int .i64 r.p.l) := B1.cell 1
  have c2 : w1.cell? ⟨w.heap.size, 2, none⟩ = some (.int .i64 r.s) := B1.cell 2
  have c3 : w1.cell? ⟨w.heap.size, 3, none⟩ = some (.int .i64 r.m) := B1.cell 3
  have c4 : w1.cell? ⟨w.heap.size, 4, none⟩ = some (.int .i64 r.l) := B1.cell 4
  have c5 : w1.cell? ⟨w.heap.size, 5, none⟩ = some (.int .i64 r.f) := B1.cell 5
  have c6 : w1.cell? ⟨w.heap.size, 6, none⟩ = some (.int .u32 r.x) := B1.cell 6
  have c7 : w1.cell? ⟨w.heap.size, 7, none⟩ = some (.int .i64 r.d) := B1.cell 7
  have c8 : w1.cell? ⟨w.heap.size, 8, none⟩ = some (.bool r.c) := B1.cell 8
  cases h1 : hasB r 16 0 with
  | true =>
    go_wp2_with fail
    refine (some_any r _ hx).mono ?_
    rintro e w2 ⟨rfl, hK2⟩
    have k2 := k1.trans hK2
    have H := Lib.hid (show (hasB r 16 0 && someB r) = someB r by simp only [h1, Bool.true_and])
    clear c0 c1 c2 c3 c4 c5 c6 c7 c8
    go_wp2_with fail
    go_ret
    exact ⟨by rw [H.out]; rfl, k2⟩
  | false =>
    have H := Lib.hid (show (hasB r 16 0 && someB r) = false by simp only [h1, Bool.false_and])
    go_wp2_with fail
    go_ret
    exact ⟨by rw [H.out]; rfl, k1⟩
set_option maxRecDepth 100000 in
set_option maxHeartbeats 1000000 in
theorem st3_any (r : Rt) (w : World) (hx : r.x < 4294967296) : Calls Tryz.prog 175 #[.agg #[.int .u32 r.p.a, .int .i64 r.p.l, .int .i64 r.s, .int .i64 r.m, .int .i64 r.l, .int .i64 r.f, .int .u32 r.x, .int .i64 r.d, .bool r.c]] w fun e w' => e = .returned (.bool (withB 2 15 r.m && (hasB r r.m 0 && someB r))) ∧ Kp w w' := by
  obtain ⟨W, hW, kW, B0⟩ : ∃ W, w.alloc (.cells #[.int .u32 r.p.a, .int .i64 r.p.l, .int .i64 r.s, .int .i64 r.m, .int .i64 r.l, .int .i64 r.f, .int .u32 r.x, .int .i64 r.d, .bool r.c] 170) = W ∧ Kp w W ∧ Blk W w.heap.size 170 #[.int .u32 r.p.a, .int .i64 r.p.l, .int .i64 r.s, .int .i64 r.m, .int .i64 r.l, .int .i64 r.f, .int .u32 r.x, .int .i64 r.d, .bool r.c] := ⟨_, rfl, (Kp.refl _).alloc _, Blk.new w _ _⟩
  have c0 : W.cell? ⟨w.heap.size, 0, none⟩ = some (.int .u32 r.p.a) := B0.cell 0
  have c1 : W.cell? ⟨w.heap.size, 1, none⟩ = some (.int .i64 r.p.l) := B0.cell 1
  have c2 : W.cell? ⟨w.heap.size, 2, none⟩ = some (.int .i64 r.s) := B0.cell 2
  have c3 : W.cell? ⟨w.heap.size, 3, none⟩ = some (.int .i64 r.m) := B0.cell 3
  have c4 : W.cell? ⟨w.heap.size, 4, none⟩ = some (.int .i64 r.l) := B0.cell 4
  have c5 : W.cell? ⟨w.heap.size, 5, none⟩ = some (.int .i64 r.f) := B0.cell 5
  have c6 : W.cell? ⟨w.heap.size, 6, none⟩ = some (.int .u32 r.x) := B0.cell 6
  have c7 : W.cell? ⟨w.heap.size, 7, none⟩ = some (.int .i64 r.d) := B0.cell 7
  have c8 : W.cell? ⟨w.heap.size, 8, none⟩ = some (.bool r.c) := B0.cell 8
  go_enter Tryz.func175, Tryz.ntmps175
  go_wp2_with fail
  refine (within_int 2 15 r.m W.heap.size _ (Blk.new W _ _)).mono ?_
  rintro e w1 ⟨rfl, rfl⟩
  have k1 := kW.alloc (.cells #[.int .i64 r.m] 3)
  have B1 := B0.alloc (.cells #[.int .i64 r.m] 3)
  obtain ⟨V, hV⟩ : ∃ V, W.alloc (.cells #[.int .i64 r.m] 3) = V := ⟨_, rfl⟩
  rw [hV] at k1 B1 ⊢
  clear hW c0 c1 c2 c3 c4 c5 c6 c7 c8
  clear hV
  have c0 : V.cell? ⟨w.heap.size, 0, none⟩ = some (.int .u32 r.p.a) := B1.cell 0
  have c1 : V.cell? ⟨w.heap.size, 1, none⟩ = some (.int .i64 r.p.l) := B1.cell 1
  have c2 : V.cell? ⟨w.heap.size, 2, none⟩ = some (.int .i64 r.s) := B1.cell 2
  have c3 : V.cell? ⟨w.heap.size, 3, none⟩ = some (.int .i64 r.m) := B1.cell 3
  have c4 : V.cell? ⟨w.heap.size, 4, none⟩ = some (.int .i64 r.l) := B1.cell 4
  have c5 : V.cell? ⟨w.heap.size, 5, none⟩ = some (.int .i64 r.f) := B1.cell 5
  have c6 : V.cell? ⟨w.heap.size, 6, none⟩ = some (.int .u32 r.x) := B1.cell 6
  have c7 : V.cell? ⟨w.heap.size, 7, none⟩ = some (.int .i64 r.d) := B1.cell 7
  have c8 : V.cell? ⟨w.heap.size, 8, none⟩ = some (.bool r.c) := B1.cell 8
  cases h0 : withB 2 15 r.m with
  | true =>
    go_wp2_with fail
    refine (hasR_any r r.m 0 _).mono ?_
    rintro e w2 ⟨rfl, hK2⟩
    have k2 := k1.trans hK2
    have B2 := B1.keep hK2
    clear c0 c1 c2 c3 c4 c5 c6 c7 c8
    have c0 : w2.cell? ⟨w.heap.size, 0, none⟩ = some (.int .u32 r.p.a) := B2.cell 0
    have c1 : w2.cell? ⟨w.heap.size, 1, none⟩ = some (.int .i64 r.p.l) := B2.cell 1
    have c2 : w2.cell? ⟨w.heap.size, 2, none⟩ = some (.int .i64 r.s) := B2.cell 2
    have c3 : w2.cell? ⟨w.heap.size, 3, none⟩ = some (.int .i64 r.m) := B2.cell 3
    have c4 : w2.cell? ⟨w.heap.size, 4, none⟩ = some (.int .i64 r.l) := B2.cell 4
    have c5 : w2.cell? ⟨w.heap.size, 5, none⟩ = some (.int .i64 r.f) := B2.cell 5
    have c6 : w2.cell? ⟨w.heap.size, 6, none⟩ = some (.int .u32 r.x) := B2.cell 6
    have c7 : w2.cell? ⟨w.heap.size, 7, none⟩ = some (.int .i64 r.d) := B2.cell 7
    have c8 : w2.cell? ⟨w.heap.size, 8, none⟩ = some (.bool r.c) := B2.cell 8
    cases h1 : hasB r r.m 0 with
    | true =>
      go_wp2_with fail
      refine (some_any r _ hx).mono ?_
      rintro e w3 ⟨rfl, hK3⟩
      have k3 := k2.trans hK3
      have H := Lib.hid (show (withB 2 15 r.m && (hasB r r.m 0 && someB r)) = someB r by simp only [h0, h1, Bool.true_and])
      clear c0 c1 c2 c3 c4 c5 c6 c7 c8
      go_wp2_with fail
      go_ret
      exact ⟨by rw [H.out]; rfl, k3⟩
    | false =>
      have H := Lib.hid (show (withB 2 15 r.m && (hasB r r.m 0 && someB r)) = false by simp only [h0, h1, Bool.true_and, Bool.false_and])
      go_wp2_with fail
      go_ret
      exact ⟨by rw [H.out]; rfl, k2⟩
  | false =>
    have H := Lib.hid (show (withB 2 15 r.m && (hasB r r.m 0 && someB r)) = false by simp only [h0, Bool.false_and])
    go_wp2_with fail
    go_ret
    exact ⟨by rw [H.out]; rfl, k1⟩
set_option maxRecDepth 100000 in
set_option maxHeartbeats 1000000 in
theorem st4_any (r : Rt) (w : World) (hx : r.x < 4294967296) : Calls Tryz.prog 177 #[.agg #[.int .u32 r.p.a, .int .i64 r.p.l, .int .i64 r.s, .int .i64 r.m, .int .i64 r.l, .int .i64 r.f, .int .u32 r.x, .int .i64 r.d, .bool r.c]] w fun e w' => e = .returned (.bool (withB 2 15 r.l && (hasB r 16 r.l && someB r))) ∧ Kp w w' := by
  obtain ⟨W, hW, kW, B0⟩ : ∃ W, w.alloc (.cells #[.int .u32 r.p.a, .int .i64 r.p.l, .int .i64 r.s, .int .i64 r.m, .int .i64 r.l, .int .i64 r.f, .int .u32 r.x, .int .i64 r.d, .bool r.c] 170) = W ∧ Kp w W ∧ Blk W w.heap.size 170 #[.int .u32 r.p.a, .int .i64 r.p.l, .int .i64 r.s, .int .i64 r.m, .int .i64 r.l, .int .i64 r.f, .int .u32 r.x, .int .i64 r.d, .bool r.c] := ⟨_, rfl, (Kp.refl _).alloc _, Blk.new w _ _⟩
  have c0 : W.cell? ⟨w.heap.size, 0, none⟩ = some (.int .u32 r.p.a) := B0.cell 0
  have c1 : W.cell? ⟨w.heap.size, 1, none⟩ = some (.int .i64 r.p.l) := B0.cell 1
  have c2 : W.cell? ⟨w.heap.size, 2, none⟩ = some (.int .i64 r.s) := B0.cell 2
  have c3 : W.cell? ⟨w.heap.size, 3, none⟩ = some (.int .i64 r.m) := B0.cell 3
  have c4 : W.cell? ⟨w.heap.size, 4, none⟩ = some (.int .i64 r.l) := B0.cell 4
  have c5 : W.cell? ⟨w.heap.size, 5, none⟩ = some (.int .i64 r.f) := B0.cell 5
  have c6 : W.cell? ⟨w.heap.size, 6, none⟩ = some (.int .u32 r.x) := B0.cell 6
  have c7 : W.cell? ⟨w.heap.size, 7, none⟩ = some (.int .i64 r.d) := B0.cell 7
  have c8 : W.cell? ⟨w.heap.size, 8, none⟩ = some (.bool r.c) := B0.cell 8
  go_enter Tryz.func177, Tryz.ntmps177
  go_wp2_with fail
  refine (within_int 2 15 r.l W.heap.size _ (Blk.new W _ _)).mono ?_
  rintro e w1 ⟨rfl, rfl⟩
  have k1 := kW.alloc (.cells #[.int .i64 r.l] 3)
  have B1 := B0.alloc (.cells #[.int .i64 r.l] 3)
  obtain ⟨V, hV⟩ : ∃ V, W.alloc (.cells #[.int .i64 r.l] 3) = V := ⟨_, rfl⟩
  rw [hV] at k1 B1 ⊢
  clear hW c0 c1 c2 c3 c4 c5 c6 c7 c8
  clear hV
  have c0 : V.cell? ⟨w.heap.size, 0, none⟩ = some (.int .u32 r.p.a) := B1.cell 0
  have c1 : V.cell? ⟨w.heap.size, 1, none⟩ = some (.int .i64 r.p.l) := B1.cell 1
  have c2 : V.cell? ⟨w.heap.size, 2, none⟩ = some (.int .i64 r.s) := B1.cell 2
  have c3 : V.cell? ⟨w.heap.size, 3, none⟩ = some (.int .i64 r.m) := B1.cell 3
  have c4 : V.cell? ⟨w.heap.size, 4, none⟩ = some (.int .i64 r.l) := B1.cell 4
  have c5 : V.cell? ⟨w.heap.size, 5, none⟩ = some (.int .i64 r.f) := B1.cell 5
  have c6 : V.cell? ⟨w.heap.size, 6, none⟩ = some (.int .u32 r.x) := B1.cell 6
  have c7 : V.cell? ⟨w.heap.size, 7, none⟩ = some (.int .i64 r.d) := B1.cell 7
  have c8 : V.cell? ⟨w.heap.size, 8, none⟩ = some (.bool r.c) := B1.cell 8
  cases h0 : withB 2 15 r.l with
  | true =>
    go_wp2_with fail
    refine (hasR_any r 16 r.l _).mono ?_
    rintro e w2 ⟨rfl, hK2⟩
    have k2 := k1.trans hK2
    have B2 := B1.keep hK2
    clear c0 c1 c2 c3 c4 c5 c6 c7 c8
    have c0 : w2.cell? ⟨w.heap.size, 0, none⟩ = some (.int .u32 r.p.a) := B2.cell 0
    have c1 : w2.cell? ⟨w.heap.size, 1, none⟩ = some (.int .i64 r.p.l) := B2.cell 1
    have c2 : w2.cell? ⟨w.heap.size, 2, none⟩ = some (.int .i64 r.s) := B2.cell 2
    have c3 : w2.cell? ⟨w.heap.size, 3, none⟩ = some (.int .i64 r.m) := B2.cell 3
    have c4 : w2.cell? ⟨w.heap.size, 4, none⟩ = some (.int .i64 r.l) := B2.cell 4
    have c5 : w2.cell? ⟨w.heap.size, 5, none⟩ = some (.int .i64 r.f) := B2.cell 5
    have c6 : w2.cell? ⟨w.heap.size, 6, none⟩ = some (.int .u32 r.x) := B2.cell 6
    have c7 : w2.cell? ⟨w.heap.size, 7, none⟩ = some (.int .i64 r.d) := B2.cell 7
    have c8 : w2.cell? ⟨w.heap.size, 8, none⟩ = some (.bool r.c) := B2.cell 8
    cases h1 : hasB r 16 r.l with
    | true =>
      go_wp2_with fail
      refine (some_any r _ hx).mono ?_
      rintro e w3 ⟨rfl, hK3⟩
      have k3 := k2.trans hK3
      have H := Lib.hid (show (withB 2 15 r.l && (hasB r 16 r.l && someB r)) = someB r by simp only [h0, h1, Bool.true_and])
      clear c0 c1 c2 c3 c4 c5 c6 c7 c8
      go_wp2_with fail
      go_ret
      exact ⟨by rw [H.out]; rfl, k3⟩
    | false =>
      have H := Lib.hid (show (withB 2 15 r.l && (hasB r 16 r.l && someB r)) = false by simp only [h0, h1, Bool.true_and, Bool.false_and])
      go_wp2_with fail
      go_ret
      exact ⟨by rw [H.out]; rfl, k2⟩
  | false =>
    have H := Lib.hid (show (withB 2 15 r.l && (hasB r 16 r.l && someB r)) = false by simp only [h0, Bool.false_and])
    go_wp2_with fail
    go_ret
    exact ⟨by rw [H.out]; rfl, k1⟩
end Go.Proofs.YtffckpkikdlbpaaGreatDoor
