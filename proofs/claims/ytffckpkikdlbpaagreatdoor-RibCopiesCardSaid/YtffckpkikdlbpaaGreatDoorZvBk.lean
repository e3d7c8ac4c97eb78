/- Lemmas and contracts for the theorem of this claim: SoP, LwA. -/
import Derived.Test.YtffckpkikdlbpaaGreatDoorZvBj
set_option linter.all false
set_option maxHeartbeats 16000000
namespace Go.Proofs.YtffckpkikdlbpaaGreatDoor
section
open Go.RowKit Go.Maps
def sameT (T U : Tb) : Bool := sameC T.c U.c && (decide (T.l = U.l) && ((T.now == U.now) && (T.rf == U.rf)))
set_option maxRecDepth 100000 in
theorem vjm (B t : Nat) (F : List Nat) (T : Tb) (w : World) (h : TabM w B t F T) : Calls Tryz.prog 34 #[.pointer (some ⟨t, 0, none⟩), .pointer none] w fun e w' => e = .returned (.bool false) ∧ Kp w w' := by
 obtain ⟨mp, hm, _⟩ := h.cellm
 clear h
 go_enter Tryz.func34, Tryz.ntmps34
 go_wp2_with (first | (go_at_call 56; first | ((with_reducible refine (vah t mp _ hm).mono ?_); rintro e w' ⟨rfl, hw'⟩; rw [hw']; clear hw' w') | ((with_reducible refine (vkO _).mono ?_); rintro e w' ⟨rfl, hw'⟩; rw [hw']; clear hw' w')))
 go_ret
 exact ⟨rfl, Kp.refl _⟩
set_option maxRecDepth 100000 in
theorem vfe (B B2 t u : Nat) (F F2 : List Nat) (T U : Tb) (w : World) (h : TabM w B t F T) (h2 : TabM w B2 u F2 U) (hn : T.c.own.length ≤ 1000000) (hn2 : U.c.own.length ≤ 1000000) :
  Calls Tryz.prog 34 #[.pointer (some ⟨t, 0, none⟩), .pointer (some ⟨u, 0, none⟩)] w fun e w' => e = .returned (.bool (sameT T U)) ∧ Kp w w' := by
 obtain ⟨q, mp, m, A, QF, l, _, X⟩ := h
 obtain ⟨q2, mp2, m2, A2, QF2, l2, _, Y⟩ := h2
 have g0 : w.cell? ⟨t, 1, none⟩ = some (.int .i64 T.c.t0) := X.bk.cell 1
 have g1 : w.cell? ⟨t, 2, none⟩ = some (.int .i64 T.c.t1) := X.bk.cell 2
 have g2 : w.cell? ⟨t, 3, none⟩ = some (.int .i64 T.c.t2) := X.bk.cell 3
 have g3 : w.cell? ⟨t, 4, none⟩ = some (.int .i64 T.c.t3) := X.bk.cell 4
 have g4 : w.cell? ⟨t, 5, none⟩ = some (.int .i64 T.c.t4) := X.bk.cell 5
 have g5 : w.cell? ⟨t, 6, none⟩ = some (.int .i64 T.c.t5) := X.bk.cell 6
 have g6 : w.cell? ⟨t, 7, none⟩ = some (.int .i64 T.c.t6) := X.bk.cell 7
 have g7 : w.cell? ⟨t, 8, none⟩ = some (.int .i64 T.c.cap) := X.bk.cell 8
 have g8 : w.cell? ⟨t, 9, none⟩ = some (.slice A T.c.own.length m) := X.bk.cell 9
 have g9 : w.cell? ⟨t, 10, none⟩ = some (.map (some mp)) := X.bk.cell 10
 have g10 : w.cell? ⟨t, 11, none⟩ = some (.int .i64 T.now) := X.bk.cell 11
 have g11 : w.cell? ⟨t, 12, none⟩ = some (.int .i64 T.rf) := X.bk.cell 12
 have k0 : w.cell? ⟨u, 1, none⟩ = some (.int .i64 U.c.t0) := Y.bk.cell 1
 have k1 : w.cell? ⟨u, 2, none⟩ = some (.int .i64 U.c.t1) := Y.bk.cell 2
 have k2 : w.cell? ⟨u, 3, none⟩ = some (.int .i64 U.c.t2) := Y.bk.cell 3
 have k3 : w.cell? ⟨u, 4, none⟩ = some (.int .i64 U.c.t3) := Y.bk.cell 4
 have k4 : w.cell? ⟨u, 5, none⟩ = some (.int .i64 U.c.t4) := Y.bk.cell 5
 have k5 : w.cell? ⟨u, 6, none⟩ = some (.int .i64 U.c.t5) := Y.bk.cell 6
 have k6 : w.cell? ⟨u, 7, none⟩ = some (.int .i64 U.c.t6) := Y.bk.cell 7
 have k7 : w.cell? ⟨u, 8, none⟩ = some (.int .i64 U.c.cap) := Y.bk.cell 8
 have k8 : w.cell? ⟨u, 9, none⟩ = some (.slice A2 U.c.own.length m2) := Y.bk.cell 9
 have k9 : w.cell? ⟨u, 10, none⟩ = some (.map (some mp2)) := Y.bk.cell 10
 have k10 : w.cell? ⟨u, 11, none⟩ = some (.int .i64 U.now) := Y.bk.cell 11
 have k11 : w.cell? ⟨u, 12, none⟩ = some (.int .i64 U.rf) := Y.bk.cell 12
 have HX := Lib.hid X
 have HY := Lib.hid Y
 have HS := Lib.hid (SlPI.of_own X.ow)
 have HQ := Lib.hid (SlPI.of_own Y.ow)
 clear X Y
 cases e1 : sameC T.c U.c with
 | false =>
  have H1 := Lib.hid e1
  have HN := Lib.hid (show sameT T U = false by unfold sameT; rw [e1]; rfl)
  clear e1
  go_enter Tryz.func34, Tryz.ntmps34
  go_upto_region 3 with (first | (go_at_call 56; first | (((with_reducible refine (vah t mp _ g9).mono ?_)); rintro e w' ⟨rfl, hw'⟩; rw [hw']; clear hw' w') | (((with_reducible refine (vah u mp2 _ k9).mono ?_)); rintro e w' ⟨rfl, hw'⟩; rw [hw']; clear hw' w')))
  refine' vag (fun (_ : Unit) _ V9 => Kp _ V9) [17, 18, 19, 20, 21, 22, 23, 24, 25, 26, 27, 28, 29, 30, 31, 32, 33, 34, 35, 36, 37, 38, 39, 40, 41, 42, 43, 44, 45, 46, 47, 48, 49, 50, 51, 52, 53, 54, 55, 56, 57, 58, 4] (fun (_ : Unit) => [.pointer (some ⟨t, 0, none⟩), .pointer (some ⟨t, 0, none⟩), .pointer (some ⟨t, 1, none⟩), .agg #[.int .i64 T.c.t0, .int .i64 T.c.t1, .int .i64 T.c.t2, .int .i64 T.c.t3, .int .i64 T.c.t4, .int .i64 T.c.t5, .int .i64 T.c.t6, .int .i64 T.c.cap, .slice A T.c.own.length m], .pointer (some ⟨u, 0, none⟩), .pointer (some ⟨u, 0, none⟩), .pointer (some ⟨u, 1, none⟩), .agg #[.int .i64 U.c.t0, .int .i64 U.c.t1, .int .i64 U.c.t2, .int .i64 U.c.t3, .int .i64 U.c.t4, .int .i64 U.c.t5, .int .i64 U.c.t6, .int .i64 U.c.cap, .slice A2 U.c.own.length m2], .bool false, .bool false, undef, undef, undef, undef, undef, undef, undef, undef, undef, .bool false, .bool false, undef, undef, undef, undef, undef, undef, undef, undef, undef, .bool false, .bool false, undef, undef, undef, undef, undef, undef, undef, undef, undef, .bool false, .bool false]) [true, true, true, true, true, true, true, true, true, true, false, false, false, false, false, false, false, false, false, true, true, false, false, false, false, false, false, false, false, false, true, true, false, false, false, false, false, false, false, false, false, true, true] [] (by kernel_rfl) (by kernel_rfl) (fun _ => rfl) (fun _ => rfl) (fun _ => rfl) () (Kp.refl _).drew (fun _ _ _ _ _ h => h) ?_ ?_ ?_
  rotate_left
  ·intro z; simp only [List.zip_cons_cons, List.zip_nil_right, wrC, wrN, List.set_cons_zero, List.set_cons_succ, List.set_nil]; rfl
  ·repeat' (first | refine And.intro ?_ ?_ | exact trivial)
   all_goals intro z L a w9 hLi d hcl hM hO K hK
   all_goals try (go_simp; exact hK z _ _ (hO rfl) (fun _ _ => rfl) rfl)
   ·obtain ⟨-, c0, c1, c2, c3, c4, c5, c6, c7, c8⟩ := Blk.v10 (HX.out.bk.keep hM) _ (.int .i64 T.c.t0) (.int .i64 T.c.t1) (.int .i64 T.c.t2) (.int .i64 T.c.t3) (.int .i64 T.c.t4) (.int .i64 T.c.t5) (.int .i64 T.c.t6) (.int .i64 T.c.cap) (.slice A T.c.own.length m) rfl
    go_simp
    exact hK z _ _ (hO rfl) (fun _ _ => rfl) rfl
   ·obtain ⟨-, c0, c1, c2, c3, c4, c5, c6, c7, c8⟩ := Blk.v10 (HY.out.bk.keep hM) _ (.int .i64 U.c.t0) (.int .i64 U.c.t1) (.int .i64 U.c.t2) (.int .i64 U.c.t3) (.int .i64 U.c.t4) (.int .i64 U.c.t5) (.int .i64 U.c.t6) (.int .i64 U.c.cap) (.slice A2 U.c.own.length m2) rfl
    go_simp
    exact hK z _ _ (hO rfl) (fun _ _ => rfl) rfl
   ·go_simp
    refine (vcv T.c U.c A A2 m m2 _ (HS.out.keep hM) (HQ.out.keep hM) hn hn2).mono ?_
    rintro e wa ⟨rfl, hKc⟩
    rw [H1.out]
    exact hK z _ _ (hM.trans hKc) (fun _ _ => rfl) rfl
  intro z L w9 hL KV
  (try simp only [Exit.then])
  go_wp2_with fail
  go_ret
  exact ⟨by rw [HN.out] <;> rfl, KV⟩
 | true =>
  have H1 := Lib.hid e1
  cases e2 : decide (T.l = U.l) with
  | false =>
   have H2 := Lib.hid e2
   have HN := Lib.hid (show sameT T U = false by unfold sameT; rw [e1, e2]; rfl)
   clear e1 e2
   go_enter Tryz.func34, Tryz.ntmps34
   go_upto_region 3 with (first | (go_at_call 56; first | (((with_reducible refine (vah t mp _ g9).mono ?_)); rintro e w' ⟨rfl, hw'⟩; rw [hw']; clear hw' w') | (((with_reducible refine (vah u mp2 _ k9).mono ?_)); rintro e w' ⟨rfl, hw'⟩; rw [hw']; clear hw' w')))
   refine' vag (fun (_ : Unit) _ V9 => Kp _ V9) [17, 18, 19, 20, 21, 22, 23, 24, 25, 26, 27, 28, 29, 30, 31, 32, 33, 34, 35, 36, 37, 38, 39, 40, 41, 42, 43, 44, 45, 46, 47, 48, 49, 50, 51, 52, 53, 54, 55, 56, 57, 58, 4] (fun (_ : Unit) => [.pointer (some ⟨t, 0, none⟩), .pointer (some ⟨t, 0, none⟩), .pointer (some ⟨t, 1, none⟩), .agg #[.int .i64 T.c.t0, .int .i64 T.c.t1, .int .i64 T.c.t2, .int .i64 T.c.t3, .int .i64 T.c.t4, .int .i64 T.c.t5, .int .i64 T.c.t6, .int .i64 T.c.cap, .slice A T.c.own.length m], .pointer (some ⟨u, 0, none⟩), .pointer (some ⟨u, 0, none⟩), .pointer (some ⟨u, 1, none⟩), .agg #[.int .i64 U.c.t0, .int .i64 U.c.t1, .int .i64 U.c.t2, .int .i64 U.c.t3, .int .i64 U.c.t4, .int .i64 U.c.t5, .int .i64 U.c.t6, .int .i64 U.c.cap, .slice A2 U.c.own.length m2], .bool true, .bool true, .pointer (some ⟨t, 0, none⟩), .pointer (some ⟨t, 0, none⟩), .pointer (some ⟨t, 10, none⟩), .map (some mp), .pointer (some ⟨u, 0, none⟩), .pointer (some ⟨u, 0, none⟩), .pointer (some ⟨u, 10, none⟩), .map (some mp2), .bool false, .bool false, .bool false, undef, undef, undef, undef, undef, undef, undef, undef, undef, .bool false, .bool false, undef, undef, undef, undef, undef, undef, undef, undef, undef, .bool false, .bool false]) [true, true, true, true, true, true, true, true, true, true, true, true, true, true, true, true, true, true, true, true, true, false, false, false, false, false, false, false, false, false, true, true, false, false, false, false, false, false, false, false, false, true, true] [] (by kernel_rfl) (by kernel_rfl) (fun _ => rfl) (fun _ => rfl) (fun _ => rfl) () (Kp.refl _).drew (fun _ _ _ _ _ h => h) ?_ ?_ ?_
   rotate_left
   ·intro z; simp only [List.zip_cons_cons, List.zip_nil_right, wrC, wrN, List.set_cons_zero, List.set_cons_succ, List.set_nil]; rfl
   ·repeat' (first | refine And.intro ?_ ?_ | exact trivial)
    all_goals intro z L a w9 hLi d hcl hM hO K hK
    all_goals try (go_simp; exact hK z _ _ (hO rfl) (fun _ _ => rfl) rfl)
    ·obtain ⟨-, c0, c1, c2, c3, c4, c5, c6, c7, c8⟩ := Blk.v10 (HX.out.bk.keep hM) _ (.int .i64 T.c.t0) (.int .i64 T.c.t1) (.int .i64 T.c.t2) (.int .i64 T.c.t3) (.int .i64 T.c.t4) (.int .i64 T.c.t5) (.int .i64 T.c.t6) (.int .i64 T.c.cap) (.slice A T.c.own.length m) rfl
     go_simp
     exact hK z _ _ (hO rfl) (fun _ _ => rfl) rfl
    ·obtain ⟨-, c0, c1, c2, c3, c4, c5, c6, c7, c8⟩ := Blk.v10 (HY.out.bk.keep hM) _ (.int .i64 U.c.t0) (.int .i64 U.c.t1) (.int .i64 U.c.t2) (.int .i64 U.c.t3) (.int .i64 U.c.t4) (.int .i64 U.c.t5) (.int .i64 U.c.t6) (.int .i64 U.c.cap) (.slice A2 U.c.own.length m2) rfl
     go_simp
     exact hK z _ _ (hO rfl) (fun _ _ => rfl) rfl
    ·go_simp
     refine (vcv T.c U.c A A2 m m2 _ (HS.out.keep hM) (HQ.out.keep hM) hn hn2).mono ?_
     rintro e wa ⟨rfl, hKc⟩
     rw [H1.out]
     exact hK z _ _ (hM.trans hKc) (fun _ _ => rfl) rfl
    ·have c0 : w9.cell? ⟨t, 10, none⟩ = some (.map (some mp)) := (HX.out.bk.keep hM).cell 10
     go_simp
     exact hK z _ _ (hO rfl) (fun _ _ => rfl) rfl
    ·have c0 : w9.cell? ⟨u, 10, none⟩ = some (.map (some mp2)) := (HY.out.bk.keep hM).cell 10
     go_simp
     exact hK z _ _ (hO rfl) (fun _ _ => rfl) rfl
    ·go_simp
     refine (vcF T.l U.l mp mp2 _ (HX.out.mr.keep hM) (HY.out.mr.keep hM) HX.out.u HY.out.u HX.out.wf HY.out.wf HX.out.n HY.out.n).mono ?_
     rintro e wb ⟨rfl, hKc⟩
     rw [H2.out]
     exact hK z _ _ (hM.trans hKc) (fun _ _ => rfl) rfl
   intro z L w9 hL KV
   (try simp only [Exit.then])
   go_wp2_with fail
   go_ret
   exact ⟨by rw [HN.out] <;> rfl, KV⟩
  | true =>
   have H2 := Lib.hid e2
   cases e3 : (T.now == U.now) with
   | false =>
    have HN := Lib.hid (show sameT T U = false by unfold sameT; rw [e1, e2, e3]; rfl)
    clear e1 e2
    go_enter Tryz.func34, Tryz.ntmps34
    go_upto_region 3 with (first | (go_at_call 56; first | (((with_reducible refine (vah t mp _ g9).mono ?_)); rintro e w' ⟨rfl, hw'⟩; rw [hw']; clear hw' w') | (((with_reducible refine (vah u mp2 _ k9).mono ?_)); rintro e w' ⟨rfl, hw'⟩; rw [hw']; clear hw' w')))
    refine' vag (fun (_ : Unit) _ V9 => Kp _ V9) [17, 18, 19, 20, 21, 22, 23, 24, 25, 26, 27, 28, 29, 30, 31, 32, 33, 34, 35, 36, 37, 38, 39, 40, 41, 42, 43, 44, 45, 46, 47, 48, 49, 50, 51, 52, 53, 54, 55, 56, 57, 58, 4] (fun (_ : Unit) => [.pointer (some ⟨t, 0, none⟩), .pointer (some ⟨t, 0, none⟩), .pointer (some ⟨t, 1, none⟩), .agg #[.int .i64 T.c.t0, .int .i64 T.c.t1, .int .i64 T.c.t2, .int .i64 T.c.t3, .int .i64 T.c.t4, .int .i64 T.c.t5, .int .i64 T.c.t6, .int .i64 T.c.cap, .slice A T.c.own.length m], .pointer (some ⟨u, 0, none⟩), .pointer (some ⟨u, 0, none⟩), .pointer (some ⟨u, 1, none⟩), .agg #[.int .i64 U.c.t0, .int .i64 U.c.t1, .int .i64 U.c.t2, .int .i64 U.c.t3, .int .i64 U.c.t4, .int .i64 U.c.t5, .int .i64 U.c.t6, .int .i64 U.c.cap, .slice A2 U.c.own.length m2], .bool true, .bool true, .pointer (some ⟨t, 0, none⟩), .pointer (some ⟨t, 0, none⟩), .pointer (some ⟨t, 10, none⟩), .map (some mp), .pointer (some ⟨u, 0, none⟩), .pointer (some ⟨u, 0, none⟩), .pointer (some ⟨u, 10, none⟩), .map (some mp2), .bool true, .bool true, .bool true, .pointer (some ⟨t, 0, none⟩), .pointer (some ⟨t, 0, none⟩), .pointer (some ⟨t, 11, none⟩), .int .i64 T.now, .pointer (some ⟨u, 0, none⟩), .pointer (some ⟨u, 0, none⟩), .pointer (some ⟨u, 11, none⟩), .int .i64 U.now, .bool false, .bool false, .bool false, undef, undef, undef, undef, undef, undef, undef, undef, undef, .bool false, .bool false]) [true, true, true, true, true, true, true, true, true, true, true, true, true, true, true, true, true, true, true, true, true, true, true, true, true, true, true, true, true, true, true, true, false, false, false, false, false, false, false, false, false, true, true] [] (by kernel_rfl) (by kernel_rfl) (fun _ => rfl) (fun _ => rfl) (fun _ => rfl) () (Kp.refl _).drew (fun _ _ _ _ _ h => h) ?_ ?_ ?_
    rotate_left
    ·intro z; simp only [List.zip_cons_cons, List.zip_nil_right, wrC, wrN, List.set_cons_zero, List.set_cons_succ, List.set_nil]; rfl
    ·repeat' (first | refine And.intro ?_ ?_ | exact trivial)
     all_goals intro z L a w9 hLi d hcl hM hO K hK
     all_goals try (go_simp; exact hK z _ _ (hO rfl) (fun _ _ => rfl) rfl)
     ·obtain ⟨-, c0, c1, c2, c3, c4, c5, c6, c7, c8⟩ := Blk.v10 (HX.out.bk.keep hM) _ (.int .i64 T.c.t0) (.int .i64 T.c.t1) (.int .i64 T.c.t2) (.int .i64 T.c.t3) (.int .i64 T.c.t4) (.int .i64 T.c.t5) (.int .i64 T.c.t6) (.int .i64 T.c.cap) (.slice A T.c.own.length m) rfl
      go_simp
      exact hK z _ _ (hO rfl) (fun _ _ => rfl) rfl
     ·obtain ⟨-, c0, c1, c2, c3, c4, c5, c6, c7, c8⟩ := Blk.v10 (HY.out.bk.keep hM) _ (.int .i64 U.c.t0) (.int .i64 U.c.t1) (.int .i64 U.c.t2) (.int .i64 U.c.t3) (.int .i64 U.c.t4) (.int .i64 U.c.t5) (.int .i64 U.c.t6) (.int .i64 U.c.cap) (.slice A2 U.c.own.length m2) rfl
      go_simp
      exact hK z _ _ (hO rfl) (fun _ _ => rfl) rfl
     ·go_simp
      refine (vcv T.c U.c A A2 m m2 _ (HS.out.keep hM) (HQ.out.keep hM) hn hn2).mono ?_
      rintro e wa ⟨rfl, hKc⟩
      rw [H1.out]
      exact hK z _ _ (hM.trans hKc) (fun _ _ => rfl) rfl
     ·have c0 : w9.cell? ⟨t, 10, none⟩ = some (.map (some mp)) := (HX.out.bk.keep hM).cell 10
      go_simp
      exact hK z _ _ (hO rfl) (fun _ _ => rfl) rfl
     ·have c0 : w9.cell? ⟨u, 10, none⟩ = some (.map (some mp2)) := (HY.out.bk.keep hM).cell 10
      go_simp
      exact hK z _ _ (hO rfl) (fun _ _ => rfl) rfl
     ·go_simp
      refine (vcF T.l U.l mp mp2 _ (HX.out.mr.keep hM) (HY.out.mr.keep hM) HX.out.u HY.out.u HX.out.wf HY.out.wf HX.out.n HY.out.n).mono ?_
      rintro e wb ⟨rfl, hKc⟩
      rw [H2.out]
      exact hK z _ _ (hM.trans hKc) (fun _ _ => rfl) rfl
     ·have c0 : w9.cell? ⟨t, 11, none⟩ = some (.int .i64 T.now) := (HX.out.bk.keep hM).cell 11
      go_simp
      exact hK z _ _ (hO rfl) (fun _ _ => rfl) rfl
     ·have c0 : w9.cell? ⟨u, 11, none⟩ = some (.int .i64 U.now) := (HY.out.bk.keep hM).cell 11
      go_simp
      exact hK z _ _ (hO rfl) (fun _ _ => rfl) rfl
    intro z L w9 hL KV
    (try simp only [Exit.then])
    go_wp2_with fail
    go_ret
    exact ⟨by rw [HN.out] <;> rfl, KV⟩
   | true =>
    obtain ⟨z, hz⟩ : ∃ z, (T.rf == U.rf) = z := ⟨_, rfl⟩
    have HN := Lib.hid (show sameT T U = z by unfold sameT; rw [e1, e2, e3, hz]; rfl)
    clear e1 e2
    go_enter Tryz.func34, Tryz.ntmps34
    go_upto_region 3 with (first | (go_at_call 56; first | (((with_reducible refine (vah t mp _ g9).mono ?_)); rintro e w' ⟨rfl, hw'⟩; rw [hw']; clear hw' w') | (((with_reducible refine (vah u mp2 _ k9).mono ?_)); rintro e w' ⟨rfl, hw'⟩; rw [hw']; clear hw' w')))
    have K : Kp w w.drew := (Kp.refl w).drew
    go_region_held3 (fun w' => w'.cell? ⟨t, 1, none⟩ = some (.int .i64 T.c.t0) ∧ w'.cell? ⟨t, 2, none⟩ = some (.int .i64 T.c.t1) ∧ w'.cell? ⟨t, 3, none⟩ = some (.int .i64 T.c.t2) ∧ w'.cell? ⟨t, 4, none⟩ = some (.int .i64 T.c.t3) ∧ w'.cell? ⟨t, 5, none⟩ = some (.int .i64 T.c.t4) ∧ w'.cell? ⟨t, 6, none⟩ = some (.int .i64 T.c.t5) ∧ w'.cell? ⟨t, 7, none⟩ = some (.int .i64 T.c.t6) ∧ w'.cell? ⟨t, 8, none⟩ = some (.int .i64 T.c.cap) ∧ w'.cell? ⟨t, 9, none⟩ = some (.slice A T.c.own.length m) ∧ w'.cell? ⟨t, 10, none⟩ = some (.map (some mp)) ∧ w'.cell? ⟨t, 11, none⟩ = some (.int .i64 T.now) ∧ w'.cell? ⟨t, 12, none⟩ = some (.int .i64 T.rf) ∧ w'.cell? ⟨u, 1, none⟩ = some (.int .i64 U.c.t0) ∧ w'.cell? ⟨u, 2, none⟩ = some (.int .i64 U.c.t1) ∧ w'.cell? ⟨u, 3, none⟩ = some (.int .i64 U.c.t2) ∧ w'.cell? ⟨u, 4, none⟩ = some (.int .i64 U.c.t3) ∧ w'.cell? ⟨u, 5, none⟩ = some (.int .i64 U.c.t4) ∧ w'.cell? ⟨u, 6, none⟩ = some (.int .i64 U.c.t5) ∧ w'.cell? ⟨u, 7, none⟩ = some (.int .i64 U.c.t6) ∧ w'.cell? ⟨u, 8, none⟩ = some (.int .i64 U.c.cap) ∧ w'.cell? ⟨u, 9, none⟩ = some (.slice A2 U.c.own.length m2) ∧ w'.cell? ⟨u, 10, none⟩ = some (.map (some mp2)) ∧ w'.cell? ⟨u, 11, none⟩ = some (.int .i64 U.now) ∧ w'.cell? ⟨u, 12, none⟩ = some (.int .i64 U.rf))
     (first | exact ⟨K.cell g0, K.cell g1, K.cell g2, K.cell g3, K.cell g4, K.cell g5, K.cell g6, K.cell g7, K.cell g8, K.cell g9, K.cell g10, K.cell g11, K.cell k0, K.cell k1, K.cell k2, K.cell k3, K.cell k4, K.cell k5, K.cell k6, K.cell k7, K.cell k8, K.cell k9, K.cell k10, K.cell k11⟩ | go_keep)
     (first
      | (go_at_call 76; refine (vcv T.c U.c A A2 m m2 _ (HS.out.keep K) (HQ.out.keep K) hn hn2).mono ?_; rintro e wa ⟨rfl, hKa⟩; rw [H1.out]; have K := K.trans hKa)
      | (go_at_call 77; refine (vcF T.l U.l mp mp2 _ (HX.out.mr.keep K) (HY.out.mr.keep K) HX.out.u HY.out.u HX.out.wf HY.out.wf HX.out.n HY.out.n).mono ?_; rintro e wb ⟨rfl, hKb⟩; rw [H2.out]; have K := K.trans hKb))
    all_goals
     go_wp2_with fail
     go_ret
     exact ⟨by rw [HN.out] <;> rfl, K⟩
structure Good (T : Tb) : Prop where
 ok : TbOk T
 xs : ∀ r ∈ T.l, r.x < 4294967296
 own : ∀ k (hk : k < T.c.own.length), T.c.own[k].a < 4294967296
theorem vnG {c : Cf} {r : Rt} {h : Hd} {now : Int} (hr : r.x < 4294967296) (hh : h.a < 4294967296) : (hearR c r h now).x < 4294967296 := by
 unfold hearR newR lostR
 repeat' split
 all_goals first | exact hr | exact hh
theorem was_x {T : Tb} (h : ∀ r ∈ T.l, r.x < 4294967296) (p : PI) : (wasR p T.l).x < 4294967296 := by
 unfold wasR
 cases e : getR p T.l with
 | none => exact (by decide : (0 : Nat) < 4294967296)
 | some r => exact h r (vas e).1
theorem set_x {L : List Rt} {r : Rt} (h : ∀ x ∈ L, x.x < 4294967296) (hr : r.x < 4294967296) : ∀ x ∈ setR r L, x.x < 4294967296 := fun x hx => by
 rcases vap.1 hx with ⟨rfl, _⟩ | ⟨hx, _⟩
 ·exact hr
 ·exact h x hx
theorem Good.heard {T : Tb} (h : Good T) (p : PI) {k : Hd} (now : Int) (hk : k.a < 4294967296) : Good (heardT T p k now).1 := by
 refine ⟨vkF h.ok p k now, ?_, ?_⟩
 ·unfold heardT
  repeat' split
  all_goals first | exact h.xs | exact set_x h.xs (vnG (was_x h.xs p) hk)
 ·have : (heardT T p k now).1.c = T.c := by unfold heardT; (repeat' split) <;> rfl
  rw [this]
  exact h.own
theorem ves {T : Tb} (h : Good T) (f : Int) : ∀ i, ∀ r ∈ (lostA T f i).1, r.x < 4294967296
 | 0 => by unfold lostA; rw [List.take_zero]; exact h.xs
 | i + 1 => by
  by_cases hi : i < (validL T.l).length
  ·rw [vbH hi]
   unfold loseG
   split
   ·exact set_x (ves h f i) (vlK (h.xs _ (List.mem_filter.1 (List.getElem_mem hi)).1))
   ·exact ves h f i
  ·have : lostA T f (i + 1) = lostA T f i := by unfold lostA; rw [List.take_of_length_le (by omega), List.take_of_length_le (by omega)]
   rw [this]
   exact ves h f i
theorem Good.at {T : Tb} (h : Good T) {now : Int} (ht : 0 ≤ now ∧ now ≤ 4611686018426387904) : Good ⟨T.c, T.l, now, T.rf⟩ := ⟨⟨h.ok.c, h.ok.u, h.ok.r, h.ok.n, ht, h.ok.f⟩, h.xs, h.own⟩
theorem Good.lost {T : Tb} (h : Good T) (f now : Int) : Good (lostT T f now).1 := by
 refine ⟨vmI h.ok f now, ?_, ?_⟩
 ·unfold lostT
  split
  ·split
   ·next ht =>
    have h2 := ves (h.at (now := now) (by have := vam.1 ht; omega)) f (validL T.l).length
    unfold lostA at h2
    rw [List.take_length, ← vbG] at h2
    exact h2
   ·exact h.xs
  ·exact h.xs
 ·have : (lostT T f now).1.c = T.c := by unfold lostT; (repeat' split) <;> rfl
  rw [this]
  exact h.own
theorem vlN {c : Cf} {now : Int} : ∀ (k : Nat) (L : List Rt), UpR L → (∀ r ∈ L, r.x < 4294967296) → ∀ r ∈ (expG c now k L).1, r.x < 4294967296
 | 0, L, _, h => h
 | k + 1, L, u, h => by
  unfold expG
  split
  ·exact h
  ·next r e =>
   split
   ·exact h
   ·exact vlN k _ (vaT _ u) (set_x h (exp_x (h r ((vaz u).2 r e).1)))
theorem Good.exp {T : Tb} (h : Good T) (now : Int) : Good (expT T now).1 := by
 refine ⟨vnu h.ok now, ?_, ?_⟩
 ·unfold expT
  split
  ·exact vlN 1000 T.l h.ok.u h.xs
  ·exact h.xs
 ·have : (expT T now).1.c = T.c := by unfold expT; split <;> rfl
  rw [this]
  exact h.own
theorem Good.seen {T : Tb} (h : Good T) : Good (seenT T).1 :=
 ⟨vmJ h.ok, fun r hr => by obtain ⟨y, hy, rfl⟩ := List.mem_map.1 hr; exact h.xs y hy, h.own⟩
theorem Good.new {c : Cf} (hc : okCf c = true) (ho : ∀ k (hk : k < c.own.length), c.own[k].a < 4294967296) : Good (newT c) := by
 refine ⟨vlG hc, fun r hr => ?_, ho⟩
 rcases ((vaS c.own [] List.Pairwise.nil).2.1 r).1 hr with ⟨p, _, rfl⟩ | ⟨h, _⟩
 ·exact (by decide : (0 : Nat) < 4294967296)
 ·simp at h
def Sm (bs : List Nat) (W W' : World) : Prop := ∀ b ∈ bs, W'.heap[b]? = W.heap[b]?
theorem Sm.trans {bs : List Nat} {U V W : World} (h : Sm bs U V) (k : Sm bs V W) : Sm bs U W := fun b hb => (k b hb).trans (h b hb)
theorem Sm.blk {bs : List Nat} {W W' : World} (h : Sm bs W W') {b : Nat} (hb : b ∈ bs) {t : TypeId} {cs : Array Value} (k : Blk W b t cs) : Blk W' b t cs := (h b hb).trans k
theorem Sm.rd {α : Type} {bs : List Nat} {W W' : World} (h : Sm bs W W') {sz : Nat} {enc : α → List Value} {A : Option Addr} {xs : List α} (hA : ∀ a, A = some a → a.block ∈ bs) (k : Rd W sz enc A xs) : Rd W' sz enc A xs := fun i hi => by
 obtain ⟨b, off, e, hc⟩ := k i hi
 exact ⟨b, off, e, fun j u hu => (World.cell?_of_block (w := W) (h b (hA ⟨b, off, none⟩ e))).trans (hc j u hu)⟩
theorem Sm.of_kp {bs : List Nat} {W W' : World} (k : Kp W W') (hb : ∀ b ∈ bs, b < W.heap.size) : Sm bs W W' := fun b h => k.heap (hb b h)
theorem Sm.cut {bs cs : List Nat} {W W' : World} (h : Sm bs W W') (hc : ∀ b ∈ cs, b ∈ bs) : Sm cs W W' := fun b hb => h b (hc b hb)
structure TS (w0 W : World) (B t : Nat) (T : Tb) (bs : List Nat) : Prop where
 kp : Kp w0 W
 lb : w0.heap.size ≤ B
 tm : ∃ F, TabM W B t F T ∧ ∀ b ∈ bs, b ∉ F
 lt : ∀ b ∈ bs, b < W.heap.size
 gd : Good T
 ca : CapAt w0
 fa : FacAt w0
theorem TS.keep {w0 W W' : World} {B t : Nat} {T : Tb} {bs : List Nat} (h : TS w0 W B t T bs) (k : Kp W W') : TS w0 W' B t T bs := by
 obtain ⟨F, hT, hn⟩ := h.tm
 exact ⟨h.kp.trans k, h.lb, ⟨F, hT.keep k, hn⟩, fun b hb => Nat.lt_of_lt_of_le (h.lt b hb) k.size, h.gd, h.ca, h.fa⟩
theorem TS.add {w0 W : World} {B t : Nat} {T : Tb} {bs : List Nat} (h : TS w0 W B t T bs) {W' : World} (k : Kp W W') {cs : List Nat} (hc : ∀ b ∈ cs, W.heap.size ≤ b ∧ b < W'.heap.size) : TS w0 W' B t T (cs ++ bs) := by
 obtain ⟨F, hT, hn⟩ := h.tm
 refine ⟨h.kp.trans k, h.lb, ⟨F, hT.keep k, fun b hb => ?_⟩, fun b hb => ?_, h.gd, h.ca, h.fa⟩
 ·rcases List.mem_append.1 hb with hb | hb
  ·exact fun z => by have := (hT.lo b z).2; have := (hc b hb).1; omega
  ·exact hn b hb
 ·rcases List.mem_append.1 hb with hb | hb
  ·exact (hc b hb).2
  ·exact Nat.lt_of_lt_of_le (h.lt b hb) k.size
theorem TS.cut {w0 W : World} {B t : Nat} {T : Tb} {bs cs : List Nat} (h : TS w0 W B t T bs) (hc : ∀ b ∈ cs, b ∈ bs) : TS w0 W B t T cs := by
 obtain ⟨F, hT, hn⟩ := h.tm
 exact ⟨h.kp, h.lb, ⟨F, hT, fun b hb => hn b (hc b hb)⟩, fun b hb => h.lt b (hc b hb), h.gd, h.ca, h.fa⟩
theorem TS.other {w0 W W' : World} {B t : Nat} {T : Tb} {bs cs : List Nat} (h : TS w0 W B t T bs) (hc : ∀ b ∈ cs, b ∈ bs ∧ w0.heap.size ≤ b ∧ ∃ ty xs, Blk W b ty xs ∧ ty ≠ 29) (k : Only cs W W') : TS w0 W' B t T bs := by
 obtain ⟨F, hT, hn⟩ := h.tm
 exact ⟨k.kp h.kp (fun b hb => (hc b hb).2.1), h.lb, ⟨F, hT.turn k (fun b hb => ⟨hn b (hc b hb).1, (hc b hb).2.2⟩), hn⟩, fun b hb => Nat.lt_of_lt_of_le (h.lt b hb) k.size, h.gd, h.ca, h.fa⟩
theorem TS.turn {w0 W W' : World} {B t : Nat} {F : List Nat} {T T' : Tb} {bs : List Nat} (h : TS w0 W B t T bs) (hF : TabM W B t F T) (hn : ∀ b ∈ bs, b ∉ F) (k : TabT W W' B t F T') (g : Good T') : TS w0 W' B t T' bs ∧ Sm bs W W' := by
 obtain ⟨F', h1, h2, h3⟩ := k
 refine ⟨⟨h2.kp h.kp (fun b hb => Nat.le_trans h.lb (hF.lo b hb).1), h.lb, ⟨F', h1, fun b hb z => ?_⟩, fun b hb => Nat.lt_of_lt_of_le (h.lt b hb) h2.size, g, h.ca, h.fa⟩, fun b hb => h2.block b (h.lt b hb) (hn b hb)⟩
 rcases h3 b z with e | e
 ·exact hn b hb e
 ·have := h.lt b hb
  omega
theorem TS.gs {w0 W : World} {B t : Nat} {T : Tb} {bs : List Nat} (h : TS w0 W B t T bs) : 1 < B ∧ 0 < B ∧ CapAt W ∧ FacAt W := by
 have h1 := World.block_lt_of_cell? w0 _ h.ca.1
 have h2 := World.block_lt_of_cell? w0 _ h.fa.1
 have := h.lb
 exact ⟨Nat.lt_of_lt_of_le h1 this, Nat.lt_of_lt_of_le h2 this, h.ca.keep h.kp, h.fa.keep h.kp⟩
def TurnP (w0 W : World) (B t : Nat) (T' : Tb) (bs : List Nat) (v : Value) (e : Ending) (W' : World) : Prop := e = .returned v ∧ TS w0 W' B t T' bs ∧ Sm bs W W'
theorem vjn (w0 W : World) (B t : Nat) (T : Tb) (bs : List Nat) (S : TS w0 W B t T bs) (p : PI) (h : Hd) (now : Int) (hp : wfP p) (hh : h.a < 4294967296) :
  Calls Tryz.prog 23 #[.pointer (some ⟨t, 0, none⟩), pfV p, .agg #[.int .i64 h.f, .int .u32 (h.a : Int), .int .i64 h.m], .int .i64 now] W (TurnP w0 W B t (heardT T p h now).1 bs (.tuple #[roV (heardT T p h now).2.1, .int .i64 (heardT T p h now).2.2])) := by
 obtain ⟨F, hT, hn⟩ := S.tm
 refine (vdp B t F T p h now W hT S.gd.ok S.gd.xs S.gd.own S.gs.2.2.1 hp hh).mono ?_
 rintro e W' ⟨rfl, k⟩
 exact ⟨rfl, S.turn hT hn k (S.gd.heard p now hh)⟩
theorem vjo (w0 W : World) (B t : Nat) (T : Tb) (bs : List Nat) (S : TS w0 W B t T bs) (now : Int) :
  Calls Tryz.prog 27 #[.pointer (some ⟨t, 0, none⟩), .int .i64 now] W (TurnP w0 W B t (expT T now).1 bs (.tuple #[.int .i64 (expT T now).2.1, .int .i64 (expT T now).2.2])) := by
 obtain ⟨F, hT, hn⟩ := S.tm
 refine (veo B t F T now W hT S.gd.ok S.gd.xs S.gd.own S.gs.2.2.1 S.gs.1).mono ?_
 rintro e W' ⟨rfl, k⟩
 exact ⟨rfl, S.turn hT hn k (S.gd.exp now)⟩
theorem TS.new {w0 W W' : World} {t : Nat} {F : List Nat} {T : Tb} {bs : List Nat} (k0 : Kp w0 W) (hM : TabM W' W.heap.size t F T) (k : Kp W W') (hb : ∀ b ∈ bs, b < W.heap.size) (g : Good T) (ca : CapAt w0) (fa : FacAt w0) : TS w0 W' W.heap.size t T bs :=
 ⟨k0.trans k, k0.size, ⟨F, hM, fun b h z => by have := (hM.lo b z).1; have := hb b h; omega⟩, fun b h => Nat.lt_of_lt_of_le (hb b h) k.size, g, ca, fa⟩
end

end Go.Proofs.YtffckpkikdlbpaaGreatDoor
