/- Lemmas and contracts for the theorem of this claim: SoP. -/
import Derived.Test.YtffckpkikdlbpaaGreatDoorZsBo
import Derived.Test.YtffckpkikdlbpaaGreatDoorZsBp
set_option linter.unusedSimpArgs false
set_option linter.unusedVariables false
namespace Go.Proofs.YtffckpkikdlbpaaGreatDoor
open Go.RowKit Go.Maps
def sameT (T U : Tb) : Bool := sameC T.c U.c && (decide (T.l = U.l) && ((T.now == U.now) && (T.rf == U.rf)))
theorem sameT_iff {T U : Tb} : sameT T U = true ↔ T = U := by
  unfold sameT
  simp only [Bool.and_eq_true, sameC_iff, decide_eq_true_eq, beq_iff_eq]
  constructor
  · rintro ⟨h1, h2, h3, h4⟩
    cases T
    cases U
    simp only at h1 h2 h3 h4
    subst h1 h2 h3 h4
    rfl
  · rintro rfl
    exact ⟨rfl, rfl, rfl, rfl⟩
set_option maxRecDepth 100000 in
set_option maxHeartbeats 16000000 in
theorem same_any_ (B B2 t u : Nat) (F F2 : List Nat) (T U : Tb) (w : World) (h : TabM w B t F T) (h2 : TabM w B2 u F2 U) (hn : T.c.own.length ≤ 1000000) (hn2 : U.c.own.length ≤ 1000000) :
    Calls Tryz.prog 34 #[.pointer (some ⟨t, 0, none⟩), .pointer (some ⟨u, 0, none⟩)] w fun e w' => e = .returned (.bool (sameT T U)) ∧ Kp w w' := by
  obtain ⟨q, mp, m, A, QF, l, _, X⟩ := h
  obtain ⟨q2, mp2, m2, A2, QF2, l2, _, Y⟩ := h2
  have g0 : w.cell? ⟨t, 1, none⟩ = some (.int .i64 T.c.t0) := X.bk.cell 1
  have g1 : w.cell? ⟨t, 2, none⟩ = some (.int .i64 T.c.t1) := X.bk.cell 2
  have g2 : w.cell? ⟨t, 3, none⟩ = some (.int .i64 T.c.t2) := X.bk.cell 3
  have g3 : w.cell? ⟨t, 4, none⟩ = some (.int .i64 T.c.t3) := X.bk.cell 4
  have g4 : w.cell? ⟨t, 5, none⟩ = some (.int .i64 T.c.t4) := X.bk.cell 5
  have g5 : w.cell? ⟨t, 6, none⟩ = some (.int .i64 T.c.t5) := X.bk.cell 6
  have g6 : w.cell? ⟨t, 7, none⟩ = some (.int .i64 T.c.t6) := X.bk.cell 7
  have g7 : w.cell? ⟨t, 8, none⟩ = some (.int .i64 T.c.cap) := X.bk.cell 8
  have g8 : w.cell? ⟨t, 9, none⟩ = some (.slice A T.c.own.length m) := X.bk.cell 9
  have g9 : w.cell? ⟨t, 10, none⟩ = some (.map (some mp)) := X.bk.cell 10
  have g10 : w.cell? ⟨t, 11, none⟩ = some (.int .i64 T.now) := X.bk.cell 11
  have g11 : w.cell? ⟨t, 12, none⟩ = some (.int .i64 T.rf) := X.bk.cell 12
  have k0 : w.cell? ⟨u, 1, none⟩ = some (.int .i64 U.c.t0) := Y.bk.cell 1
  have k1 : w.cell? ⟨u, 2, none⟩ = some (.int .i64 U.c.t1) := Y.bk.cell 2
  have k2 : w.cell? ⟨u, 3, none⟩ = some (.int .i64 U.c.t2) := Y.bk.cell 3
  have k3 : w.cell? ⟨u, 4, none⟩ = some (.int .i64 U.c.t3) := Y.bk.cell 4
  have k4 : w.cell? ⟨u, 5, none⟩ = some (.int .i64 U.c.t4) := Y.bk.cell 5
  have k5 : w.cell? ⟨u, 6, none⟩ = some (.int .i64 U.c.t5) := Y.bk.cell 6
  have k6 : w.cell? ⟨u, 7, none⟩ = some (.int .i64 U.c.t6) := Y.bk.cell 7
  have k7 : w.cell? ⟨u, 8, none⟩ = some (.int .i64 U.c.cap) := Y.bk.cell 8
  have k8 : w.cell? ⟨u, 9, none⟩ = some (.slice A2 U.c.own.length m2) := Y.bk.cell 9
  have k9 : w.cell? ⟨u, 10, none⟩ = some (.map (some mp2)) := Y.bk.cell 10
  have k10 : w.cell? ⟨u, 11, none⟩ = some (.int .i64 U.now) := Y.bk.cell 11
  have k11 : w.cell? ⟨u, 12, none⟩ = some (.int .i64 U.rf) := Y.bk.cell 12
  have HX := Lib.hid X
  have HY := Lib.hid Y
  have HS := Lib.hid (SlPI.of_own X.ow)
  have HQ := Lib.hid (SlPI.of_own Y.ow)
  clear X Y
  cases e1 : sameC T.c U.c with
  | false =>
    have H1 := Lib.hid e1
    have HN := Lib.hid (show sameT T U = false by unfold sameT; rw [e1]; rfl)
    clear e1
    go_enter Tryz.func34, Tryz.ntmps34
    go_upto_region 3 with (first | (go_at_call 56; first | (((with_reducible refine (none_tab t mp _ g9).mono ?_)); rintro e w' ⟨rfl, hw'⟩; rw [hw']; clear hw' w') | (((with_reducible refine (none_tab u mp2 _ k9).mono ?_)); rintro e w' ⟨rfl, hw'⟩; rw [hw']; clear hw' w')))
    refine wp_anyZ [17, 18, 19, 20, 21, 22, 23, 24, 25, 26, 27, 28, 29, 30, 31, 32, 33, 34, 35, 36, 37, 38, 39, 40, 41, 42, 43, 44, 45, 46, 47, 48, 49, 50, 51, 52, 53, 54, 55, 56, 57, 58, 4] [.pointer (some ⟨t, 0, none⟩), .pointer (some ⟨t, 0, none⟩), .pointer (some ⟨t, 1, none⟩), .agg #[.int .i64 T.c.t0, .int .i64 T.c.t1, .int .i64 T.c.t2, .int .i64 T.c.t3, .int .i64 T.c.t4, .int .i64 T.c.t5, .int .i64 T.c.t6, .int .i64 T.c.cap, .slice A T.c.own.length m], .pointer (some ⟨u, 0, none⟩), .pointer (some ⟨u, 0, none⟩), .pointer (some ⟨u, 1, none⟩), .agg #[.int .i64 U.c.t0, .int .i64 U.c.t1, .int .i64 U.c.t2, .int .i64 U.c.t3, .int .i64 U.c.t4, .int .i64 U.c.t5, .int .i64 U.c.t6, .int .i64 U.c.cap, .slice A2 U.c.own.length m2], .bool false, .bool false, undef, undef, undef, undef, undef, undef, undef, undef, undef, .bool false, .bool false, undef, undef, undef, undef, undef, undef, undef, undef, undef, .bool false, .bool false, undef, undef, undef, undef, undef, undef, undef, undef, undef, .bool false, .bool false] [true, true, true, true, true, true, true, true, true, true, false, false, false, false, false, false, false, false, false, true, true, false, false, false, false, false, false, false, false, false, true, true, false, false, false, false, false, false, false, false, false, true, true] (by kernel_rfl) (by kernel_rfl) (by kernel_rfl) rfl rfl (by decide) rfl rfl rfl ?_ ?_
    · intro i o a w9 ho hw f g hkp K hK
      have hi : i < 43 := by have := (List.getElem?_eq_some_iff.1 ho).1; simpa using this
      have hcs : i = 0 ∨ i = 1 ∨ i = 2 ∨ i = 3 ∨ i = 4 ∨ i = 5 ∨ i = 6 ∨ i = 7 ∨ i = 8 ∨ i = 9 ∨ i = 10 ∨ i = 11 ∨ i = 12 ∨ i = 13 ∨ i = 14 ∨ i = 15 ∨ i = 16 ∨ i = 17 ∨ i = 18 ∨ i = 19 ∨ i = 20 ∨ i = 21 ∨ i = 22 ∨ i = 23 ∨ i = 24 ∨ i = 25 ∨ i = 26 ∨ i = 27 ∨ i = 28 ∨ i = 29 ∨ i = 30 ∨ i = 31 ∨ i = 32 ∨ i = 33 ∨ i = 34 ∨ i = 35 ∨ i = 36 ∨ i = 37 ∨ i = 38 ∨ i = 39 ∨ i = 40 ∨ i = 41 ∨ i = 42 := by omega
      clear hi
      rcases hcs with rfl | rfl | rfl | rfl | rfl | rfl | rfl | rfl | rfl | rfl | rfl | rfl | rfl | rfl | rfl | rfl | rfl | rfl | rfl | rfl | rfl | rfl | rfl | rfl | rfl | rfl | rfl | rfl | rfl | rfl | rfl | rfl | rfl | rfl | rfl | rfl | rfl | rfl | rfl | rfl | rfl | rfl | rfl
      all_goals
        first | simp only [List.getElem?_cons_zero, List.getElem?_cons_succ, Option.some.injEq] at ho | replace ho := Option.some.inj ho
        subst ho
      · have t0 : a.tmps[0]?.getD undef = .pointer (some ⟨t, 0, none⟩) := g 0 (by decide)
        unfold Oper.wp
        simp only [execOp, Act.eval, Array.getD_eq_getD_getElem?]
        go_simp
        exact hK _ _ (Kp.refl _) rfl
      · have t17 : a.tmps[17]?.getD undef = .pointer (some ⟨t, 0, none⟩) := f 0 rfl
        unfold Oper.wp
        simp only [execOp, Act.eval, Array.getD_eq_getD_getElem?]
        go_simp
        exact hK _ _ (Kp.refl _) rfl
      · have t18 : a.tmps[18]?.getD undef = .pointer (some ⟨t, 0, none⟩) := f 1 rfl
        unfold Oper.wp
        simp only [execOp, Act.eval, Array.getD_eq_getD_getElem?]
        go_simp
        exact hK _ _ (Kp.refl _) rfl
      · have t19 : a.tmps[19]?.getD undef = .pointer (some ⟨t, 1, none⟩) := f 2 rfl
        have c0 : w9.cell? ⟨t, 1, none⟩ = some (.int .i64 T.c.t0) := (HX.out.bk.keep hkp).cell 1
        have c1 : w9.cell? ⟨t, 2, none⟩ = some (.int .i64 T.c.t1) := (HX.out.bk.keep hkp).cell 2
        have c2 : w9.cell? ⟨t, 3, none⟩ = some (.int .i64 T.c.t2) := (HX.out.bk.keep hkp).cell 3
        have c3 : w9.cell? ⟨t, 4, none⟩ = some (.int .i64 T.c.t3) := (HX.out.bk.keep hkp).cell 4
        have c4 : w9.cell? ⟨t, 5, none⟩ = some (.int .i64 T.c.t4) := (HX.out.bk.keep hkp).cell 5
        have c5 : w9.cell? ⟨t, 6, none⟩ = some (.int .i64 T.c.t5) := (HX.out.bk.keep hkp).cell 6
        have c6 : w9.cell? ⟨t, 7, none⟩ = some (.int .i64 T.c.t6) := (HX.out.bk.keep hkp).cell 7
        have c7 : w9.cell? ⟨t, 8, none⟩ = some (.int .i64 T.c.cap) := (HX.out.bk.keep hkp).cell 8
        have c8 : w9.cell? ⟨t, 9, none⟩ = some (.slice A T.c.own.length m) := (HX.out.bk.keep hkp).cell 9
        unfold Oper.wp
        simp only [execOp, Act.eval, Array.getD_eq_getD_getElem?]
        go_simp
        exact hK _ _ (Kp.refl _) rfl
      · have t1 : a.tmps[1]?.getD undef = .pointer (some ⟨u, 0, none⟩) := g 1 (by decide)
        unfold Oper.wp
        simp only [execOp, Act.eval, Array.getD_eq_getD_getElem?]
        go_simp
        exact hK _ _ (Kp.refl _) rfl
      · have t21 : a.tmps[21]?.getD undef = .pointer (some ⟨u, 0, none⟩) := f 4 rfl
        unfold Oper.wp
        simp only [execOp, Act.eval, Array.getD_eq_getD_getElem?]
        go_simp
        exact hK _ _ (Kp.refl _) rfl
      · have t22 : a.tmps[22]?.getD undef = .pointer (some ⟨u, 0, none⟩) := f 5 rfl
        unfold Oper.wp
        simp only [execOp, Act.eval, Array.getD_eq_getD_getElem?]
        go_simp
        exact hK _ _ (Kp.refl _) rfl
      · have t23 : a.tmps[23]?.getD undef = .pointer (some ⟨u, 1, none⟩) := f 6 rfl
        have c0 : w9.cell? ⟨u, 1, none⟩ = some (.int .i64 U.c.t0) := (HY.out.bk.keep hkp).cell 1
        have c1 : w9.cell? ⟨u, 2, none⟩ = some (.int .i64 U.c.t1) := (HY.out.bk.keep hkp).cell 2
        have c2 : w9.cell? ⟨u, 3, none⟩ = some (.int .i64 U.c.t2) := (HY.out.bk.keep hkp).cell 3
        have c3 : w9.cell? ⟨u, 4, none⟩ = some (.int .i64 U.c.t3) := (HY.out.bk.keep hkp).cell 4
        have c4 : w9.cell? ⟨u, 5, none⟩ = some (.int .i64 U.c.t4) := (HY.out.bk.keep hkp).cell 5
        have c5 : w9.cell? ⟨u, 6, none⟩ = some (.int .i64 U.c.t5) := (HY.out.bk.keep hkp).cell 6
        have c6 : w9.cell? ⟨u, 7, none⟩ = some (.int .i64 U.c.t6) := (HY.out.bk.keep hkp).cell 7
        have c7 : w9.cell? ⟨u, 8, none⟩ = some (.int .i64 U.c.cap) := (HY.out.bk.keep hkp).cell 8
        have c8 : w9.cell? ⟨u, 9, none⟩ = some (.slice A2 U.c.own.length m2) := (HY.out.bk.keep hkp).cell 9
        unfold Oper.wp
        simp only [execOp, Act.eval, Array.getD_eq_getD_getElem?]
        go_simp
        exact hK _ _ (Kp.refl _) rfl
      · have t20 : a.tmps[20]?.getD undef = .agg #[.int .i64 T.c.t0, .int .i64 T.c.t1, .int .i64 T.c.t2, .int .i64 T.c.t3, .int .i64 T.c.t4, .int .i64 T.c.t5, .int .i64 T.c.t6, .int .i64 T.c.cap, .slice A T.c.own.length m] := f 3 rfl
        have t24 : a.tmps[24]?.getD undef = .agg #[.int .i64 U.c.t0, .int .i64 U.c.t1, .int .i64 U.c.t2, .int .i64 U.c.t3, .int .i64 U.c.t4, .int .i64 U.c.t5, .int .i64 U.c.t6, .int .i64 U.c.cap, .slice A2 U.c.own.length m2] := f 7 rfl
        unfold Oper.wp
        simp only [execOp, Act.eval, Array.getD_eq_getD_getElem?]
        go_simp
        refine (csame_any T.c U.c A A2 m m2 _ (HS.out.keep hkp) (HQ.out.keep hkp) hn hn2).mono ?_
        rintro e wa ⟨rfl, hKc⟩
        rw [H1.out]
        exact hK _ _ hKc rfl
      · have t25 : a.tmps[25]?.getD undef = .bool false := f 8 rfl
        unfold Oper.wp
        simp only [execOp, Act.eval, Array.getD_eq_getD_getElem?]
        go_simp
        exact hK _ _ (Kp.refl _) rfl
      · exact Bool.noConfusion (show false = true from hw)
      · exact Bool.noConfusion (show false = true from hw)
      · exact Bool.noConfusion (show false = true from hw)
      · exact Bool.noConfusion (show false = true from hw)
      · exact Bool.noConfusion (show false = true from hw)
      · exact Bool.noConfusion (show false = true from hw)
      · exact Bool.noConfusion (show false = true from hw)
      · exact Bool.noConfusion (show false = true from hw)
      · exact Bool.noConfusion (show false = true from hw)
      · have t26 : a.tmps[26]?.getD undef = .bool false := f 9 rfl
        have t35 : a.tmps[35]?.getD undef = undef := f 18 rfl
        unfold Oper.wp
        simp only [execOp, Act.eval, Array.getD_eq_getD_getElem?]
        go_simp
        exact hK _ _ (Kp.refl _) rfl
      · have t36 : a.tmps[36]?.getD undef = .bool false := f 19 rfl
        unfold Oper.wp
        simp only [execOp, Act.eval, Array.getD_eq_getD_getElem?]
        go_simp
        exact hK _ _ (Kp.refl _) rfl
      · exact Bool.noConfusion (show false = true from hw)
      · exact Bool.noConfusion (show false = true from hw)
      · exact Bool.noConfusion (show false = true from hw)
      · exact Bool.noConfusion (show false = true from hw)
      · exact Bool.noConfusion (show false = true from hw)
      · exact Bool.noConfusion (show false = true from hw)
      · exact Bool.noConfusion (show false = true from hw)
      · exact Bool.noConfusion (show false = true from hw)
      · exact Bool.noConfusion (show false = true from hw)
      · have t37 : a.tmps[37]?.getD undef = .bool false := f 20 rfl
        have t46 : a.tmps[46]?.getD undef = undef := f 29 rfl
        unfold Oper.wp
        simp only [execOp, Act.eval, Array.getD_eq_getD_getElem?]
        go_simp
        exact hK _ _ (Kp.refl _) rfl
      · have t47 : a.tmps[47]?.getD undef = .bool false := f 30 rfl
        unfold Oper.wp
        simp only [execOp, Act.eval, Array.getD_eq_getD_getElem?]
        go_simp
        exact hK _ _ (Kp.refl _) rfl
      · exact Bool.noConfusion (show false = true from hw)
      · exact Bool.noConfusion (show false = true from hw)
      · exact Bool.noConfusion (show false = true from hw)
      · exact Bool.noConfusion (show false = true from hw)
      · exact Bool.noConfusion (show false = true from hw)
      · exact Bool.noConfusion (show false = true from hw)
      · exact Bool.noConfusion (show false = true from hw)
      · exact Bool.noConfusion (show false = true from hw)
      · exact Bool.noConfusion (show false = true from hw)
      · have t48 : a.tmps[48]?.getD undef = .bool false := f 31 rfl
        have t57 : a.tmps[57]?.getD undef = undef := f 40 rfl
        unfold Oper.wp
        simp only [execOp, Act.eval, Array.getD_eq_getD_getElem?]
        go_simp
        exact hK _ _ (Kp.refl _) rfl
      · have t58 : a.tmps[58]?.getD undef = .bool false := f 41 rfl
        unfold Oper.wp
        simp only [execOp, Act.eval, Array.getD_eq_getD_getElem?]
        go_simp
        exact hK _ _ (Kp.refl _) rfl
    intro w9 KV
    (try simp only [Exit.then])
    simp only [wrS, List.zip_cons_cons, List.zip_nil_right, List.foldl_cons, List.foldl_nil, List.setIfInBounds_toArray, List.set_cons_zero, List.set_cons_succ]
    go_wp2_with fail
    go_ret
    exact ⟨by rw [HN.out] <;> rfl, KV⟩
  | true =>
    have H1 := Lib.hid e1
    cases e2 : decide (T.l = U.l) with
    | false =>
      have H2 := Lib.hid e2
      have HN := Lib.hid (show sameT T U = false by unfold sameT; rw [e1, e2]; rfl)
      clear e1 e2
      go_enter Tryz.func34, Tryz.ntmps34
      go_upto_region 3 with (first | (go_at_call 56; first | (((with_reducible refine (none_tab t mp _ g9).mono ?_)); rintro e w' ⟨rfl, hw'⟩; rw [hw']; clear hw' w') | (((with_reducible refine (none_tab u mp2 _ k9).mono ?_)); rintro e w' ⟨rfl, hw'⟩; rw [hw']; clear hw' w')))
      refine wp_anyZ [17, 18, 19, 20, 21, 22, 23, 24, 25, 26, 27, 28, 29, 30, 31, 32, 33, 34, 35, 36, 37, 38, 39, 40, 41, 42, 43, 44, 45, 46, 47, 48, 49, 50, 51, 52, 53, 54, 55, 56, 57, 58, 4] [.pointer (some ⟨t, 0, none⟩), .pointer (some ⟨t, 0, none⟩), .pointer (some ⟨t, 1, none⟩), .agg #[.int .i64 T.c.t0, .int .i64 T.c.t1, .int .i64 T.c.t2, .int .i64 T.c.t3, .int .i64 T.c.t4, .int .i64 T.c.t5, .int .i64 T.c.t6, .int .i64 T.c.cap, .slice A T.c.own.length m], .pointer (some ⟨u, 0, none⟩), .pointer (some ⟨u, 0, none⟩), .pointer (some ⟨u, 1, none⟩), .agg #[.int .i64 U.c.t0, .int .i64 U.c.t1, .int .i64 U.c.t2, .int .i64 U.c.t3, .int .i64 U.c.t4, .int .i64 U.c.t5, .int .i64 U.c.t6, .int .i64 U.c.cap, .slice A2 U.c.own.length m2], .bool true, .bool true, .pointer (some ⟨t, 0, none⟩), .pointer (some ⟨t, 0, none⟩), .pointer (some ⟨t, 10, none⟩), .map (some mp), .pointer (some ⟨u, 0, none⟩), .pointer (some ⟨u, 0, none⟩), .pointer (some ⟨u, 10, none⟩), .map (some mp2), .bool false, .bool false, .bool false, undef, undef, undef, undef, undef, undef, undef, undef, undef, .bool false, .bool false, undef, undef, undef, undef, undef, undef, undef, undef, undef, .bool false, .bool false] [true, true, true, true, true, true, true, true, true, true, true, true, true, true, true, true, true, true, true, true, true, false, false, false, false, false, false, false, false, false, true, true, false, false, false, false, false, false, false, false, false, true, true] (by kernel_rfl) (by kernel_rfl) (by kernel_rfl) rfl rfl (by decide) rfl rfl rfl ?_ ?_
      · intro i o a w9 ho hw f g hkp K hK
        have hi : i < 43 := by have := (List.getElem?_eq_some_iff.1 ho).1; simpa using this
        have hcs : i = 0 ∨ i = 1 ∨ i = 2 ∨ i = 3 ∨ i = 4 ∨ i = 5 ∨ i = 6 ∨ i = 7 ∨ i = 8 ∨ i = 9 ∨ i = 10 ∨ i = 11 ∨ i = 12 ∨ i = 13 ∨ i = 14 ∨ i = 15 ∨ i = 16 ∨ i = 17 ∨ i = 18 ∨ i = 19 ∨ i = 20 ∨ i = 21 ∨ i = 22 ∨ i = 23 ∨ i = 24 ∨ i = 25 ∨ i = 26 ∨ i = 27 ∨ i = 28 ∨ i = 29 ∨ i = 30 ∨ i = 31 ∨ i = 32 ∨ i = 33 ∨ i = 34 ∨ i = 35 ∨ i = 36 ∨ i = 37 ∨ i = 38 ∨ i = 39 ∨ i = 40 ∨ i = 41 ∨ i = 42 := by omega
        clear hi
        rcases hcs with rfl | rfl | rfl | rfl | rfl | rfl | rfl | rfl | rfl | rfl | rfl | rfl | rfl | rfl | rfl | rfl | rfl | rfl | rfl | rfl | rfl | rfl | rfl | rfl | rfl | rfl | rfl | rfl | rfl | rfl | rfl | rfl | rfl | rfl | rfl | rfl | rfl | rfl | rfl | rfl | rfl | rfl | rfl
        all_goals
          first | simp only [List.getElem?_cons_zero, List.getElem?_cons_succ, Option.some.injEq] at ho | replace ho := Option.some.inj ho
          subst ho
        · have t0 : a.tmps[0]?.getD undef = .pointer (some ⟨t, 0, none⟩) := g 0 (by decide)
          unfold Oper.wp
          simp only [execOp, Act.eval, Array.getD_eq_getD_getElem?]
          go_simp
          exact hK _ _ (Kp.refl _) rfl
        · have t17 : a.tmps[17]?.getD undef = .pointer (some ⟨t, 0, none⟩) := f 0 rfl
          unfold Oper.wp
          simp only [execOp, Act.eval, Array.getD_eq_getD_getElem?]
          go_simp
          exact hK _ _ (Kp.refl _) rfl
        · have t18 : a.tmps[18]?.getD undef = .pointer (some ⟨t, 0, none⟩) := f 1 rfl
          unfold Oper.wp
          simp only [execOp, Act.eval, Array.getD_eq_getD_getElem?]
          go_simp
          exact hK _ _ (Kp.refl _) rfl
        · have t19 : a.tmps[19]?.getD undef = .pointer (some ⟨t, 1, none⟩) := f 2 rfl
          have c0 : w9.cell? ⟨t, 1, none⟩ = some (.int .i64 T.c.t0) := (HX.out.bk.keep hkp).cell 1
          have c1 : w9.cell? ⟨t, 2, none⟩ = some (.int .i64 T.c.t1) := (HX.out.bk.keep hkp).cell 2
          have c2 : w9.cell? ⟨t, 3, none⟩ = some (.int .i64 T.c.t2) := (HX.out.bk.keep hkp).cell 3
          have c3 : w9.cell? ⟨t, 4, none⟩ = some (.int .i64 T.c.t3) := (HX.out.bk.keep hkp).cell 4
          have c4 : w9.cell? ⟨t, 5, none⟩ = some (.int .i64 T.c.t4) := (HX.out.bk.keep hkp).cell 5
          have c5 : w9.cell? ⟨t, 6, none⟩ = some (.int .i64 T.c.t5) := (HX.out.bk.keep hkp).cell 6
          have c6 : w9.cell? ⟨t, 7, none⟩ = some (.int .i64 T.c.t6) := (HX.out.bk.keep hkp).cell 7
          have c7 : w9.cell? ⟨t, 8, none⟩ = some (.int .i64 T.c.cap) := (HX.out.bk.keep hkp).cell 8
          have c8 : w9.cell? ⟨t, 9, none⟩ = some (.slice A T.c.own.length m) := (HX.out.bk.keep hkp).cell 9
          unfold Oper.wp
          simp only [execOp, Act.eval, Array.getD_eq_getD_getElem?]
          go_simp
          exact hK _ _ (Kp.refl _) rfl
        · have t1 : a.tmps[1]?.getD undef = .pointer (some ⟨u, 0, none⟩) := g 1 (by decide)
          unfold Oper.wp
          simp only [execOp, Act.eval, Array.getD_eq_getD_getElem?]
          go_simp
          exact hK _ _ (Kp.refl _) rfl
        · have t21 : a.tmps[21]?.getD undef = .pointer (some ⟨u, 0, none⟩) := f 4 rfl
          unfold Oper.wp
          simp only [execOp, Act.eval, Array.getD_eq_getD_getElem?]
          go_simp
          exact hK _ _ (Kp.refl _) rfl
        · have t22 : a.tmps[22]?.getD undef = .pointer (some ⟨u, 0, none⟩) := f 5 rfl
          unfold Oper.wp
          simp only [execOp, Act.eval, Array.getD_eq_getD_getElem?]
          go_simp
          exact hK _ _ (Kp.refl _) rfl
        · have t23 : a.tmps[23]?.getD undef = .pointer (some ⟨u, 1, none⟩) := f 6 rfl
          have c0 : w9.cell? ⟨u, 1, none⟩ = some (.int .i64 U.c.t0) := (HY.out.bk.keep hkp).cell 1
          have c1 : w9.cell? ⟨u, 2, none⟩ = some (.int .i64 U.c.t1) := (HY.out.bk.keep hkp).cell 2
          have c2 : w9.cell? ⟨u, 3, none⟩ = some (.int .i64 U.c.t2) := (HY.out.bk.keep hkp).cell 3
          have c3 : w9.cell? ⟨u, 4, none⟩ = some (.int .i64 U.c.t3) := (HY.out.bk.keep hkp).cell 4
          have c4 : w9.cell? ⟨u, 5, none⟩ = some (.int .i64 U.c.t4) := (HY.out.bk.keep hkp).cell 5
          have c5 : w9.cell? ⟨u, 6, none⟩ = some (.int .i64 U.c.t5) := (HY.out.bk.keep hkp).cell 6
          have c6 : w9.cell? ⟨u, 7, none⟩ = some (.int .i64 U.c.t6) := (HY.out.bk.keep hkp).cell 7
          have c7 : w9.cell? ⟨u, 8, none⟩ = some (.int .i64 U.c.cap) := (HY.out.bk.keep hkp).cell 8
          have c8 : w9.cell? ⟨u, 9, none⟩ = some (.slice A2 U.c.own.length m2) := (HY.out.bk.keep hkp).cell 9
          unfold Oper.wp
          simp only [execOp, Act.eval, Array.getD_eq_getD_getElem?]
          go_simp
          exact hK _ _ (Kp.refl _) rfl
        · have t20 : a.tmps[20]?.getD undef = .agg #[.int .i64 T.c.t0, .int .i64 T.c.t1, .int .i64 T.c.t2, .int .i64 T.c.t3, .int .i64 T.c.t4, .int .i64 T.c.t5, .int .i64 T.c.t6, .int .i64 T.c.cap, .slice A T.c.own.length m] := f 3 rfl
          have t24 : a.tmps[24]?.getD undef = .agg #[.int .i64 U.c.t0, .int .i64 U.c.t1, .int .i64 U.c.t2, .int .i64 U.c.t3, .int .i64 U.c.t4, .int .i64 U.c.t5, .int .i64 U.c.t6, .int .i64 U.c.cap, .slice A2 U.c.own.length m2] := f 7 rfl
          unfold Oper.wp
          simp only [execOp, Act.eval, Array.getD_eq_getD_getElem?]
          go_simp
          refine (csame_any T.c U.c A A2 m m2 _ (HS.out.keep hkp) (HQ.out.keep hkp) hn hn2).mono ?_
          rintro e wa ⟨rfl, hKc⟩
          rw [H1.out]
          exact hK _ _ hKc rfl
        · have t25 : a.tmps[25]?.getD undef = .bool true := f 8 rfl
          unfold Oper.wp
          simp only [execOp, Act.eval, Array.getD_eq_getD_getElem?]
          go_simp
          exact hK _ _ (Kp.refl _) rfl
        · have t0 : a.tmps[0]?.getD undef = .pointer (some ⟨t, 0, none⟩) := g 0 (by decide)
          unfold Oper.wp
          simp only [execOp, Act.eval, Array.getD_eq_getD_getElem?]
          go_simp
          exact hK _ _ (Kp.refl _) rfl
        · have t27 : a.tmps[27]?.getD undef = .pointer (some ⟨t, 0, none⟩) := f 10 rfl
          unfold Oper.wp
          simp only [execOp, Act.eval, Array.getD_eq_getD_getElem?]
          go_simp
          exact hK _ _ (Kp.refl _) rfl
        · have t28 : a.tmps[28]?.getD undef = .pointer (some ⟨t, 0, none⟩) := f 11 rfl
          unfold Oper.wp
          simp only [execOp, Act.eval, Array.getD_eq_getD_getElem?]
          go_simp
          exact hK _ _ (Kp.refl _) rfl
        · have t29 : a.tmps[29]?.getD undef = .pointer (some ⟨t, 10, none⟩) := f 12 rfl
          have c0 : w9.cell? ⟨t, 10, none⟩ = some (.map (some mp)) := (HX.out.bk.keep hkp).cell 10
          unfold Oper.wp
          simp only [execOp, Act.eval, Array.getD_eq_getD_getElem?]
          go_simp
          exact hK _ _ (Kp.refl _) rfl
        · have t1 : a.tmps[1]?.getD undef = .pointer (some ⟨u, 0, none⟩) := g 1 (by decide)
          unfold Oper.wp
          simp only [execOp, Act.eval, Array.getD_eq_getD_getElem?]
          go_simp
          exact hK _ _ (Kp.refl _) rfl
        · have t31 : a.tmps[31]?.getD undef = .pointer (some ⟨u, 0, none⟩) := f 14 rfl
          unfold Oper.wp
          simp only [execOp, Act.eval, Array.getD_eq_getD_getElem?]
          go_simp
          exact hK _ _ (Kp.refl _) rfl
        · have t32 : a.tmps[32]?.getD undef = .pointer (some ⟨u, 0, none⟩) := f 15 rfl
          unfold Oper.wp
          simp only [execOp, Act.eval, Array.getD_eq_getD_getElem?]
          go_simp
          exact hK _ _ (Kp.refl _) rfl
        · have t33 : a.tmps[33]?.getD undef = .pointer (some ⟨u, 10, none⟩) := f 16 rfl
          have c0 : w9.cell? ⟨u, 10, none⟩ = some (.map (some mp2)) := (HY.out.bk.keep hkp).cell 10
          unfold Oper.wp
          simp only [execOp, Act.eval, Array.getD_eq_getD_getElem?]
          go_simp
          exact hK _ _ (Kp.refl _) rfl
        · have t30 : a.tmps[30]?.getD undef = .map (some mp) := f 13 rfl
          have t34 : a.tmps[34]?.getD undef = .map (some mp2) := f 17 rfl
          unfold Oper.wp
          simp only [execOp, Act.eval, Array.getD_eq_getD_getElem?]
          go_simp
          refine (mequal_any T.l U.l mp mp2 _ (HX.out.mr.keep hkp) (HY.out.mr.keep hkp) HX.out.u HY.out.u HX.out.wf HY.out.wf HX.out.n HY.out.n).mono ?_
          rintro e wb ⟨rfl, hKc⟩
          rw [H2.out]
          exact hK _ _ hKc rfl
        · have t26 : a.tmps[26]?.getD undef = .bool true := f 9 rfl
          have t35 : a.tmps[35]?.getD undef = .bool false := f 18 rfl
          unfold Oper.wp
          simp only [execOp, Act.eval, Array.getD_eq_getD_getElem?]
          go_simp
          exact hK _ _ (Kp.refl _) rfl
        · have t36 : a.tmps[36]?.getD undef = .bool false := f 19 rfl
          unfold Oper.wp
          simp only [execOp, Act.eval, Array.getD_eq_getD_getElem?]
          go_simp
          exact hK _ _ (Kp.refl _) rfl
        · exact Bool.noConfusion (show false = true from hw)
        · exact Bool.noConfusion (show false = true from hw)
        · exact Bool.noConfusion (show false = true from hw)
        · exact Bool.noConfusion (show false = true from hw)
        · exact Bool.noConfusion (show false = true from hw)
        · exact Bool.noConfusion (show false = true from hw)
        · exact Bool.noConfusion (show false = true from hw)
        · exact Bool.noConfusion (show false = true from hw)
        · exact Bool.noConfusion (show false = true from hw)
        · have t37 : a.tmps[37]?.getD undef = .bool false := f 20 rfl
          have t46 : a.tmps[46]?.getD undef = undef := f 29 rfl
          unfold Oper.wp
          simp only [execOp, Act.eval, Array.getD_eq_getD_getElem?]
          go_simp
          exact hK _ _ (Kp.refl _) rfl
        · have t47 : a.tmps[47]?.getD undef = .bool false := f 30 rfl
          unfold Oper.wp
          simp only [execOp, Act.eval, Array.getD_eq_getD_getElem?]
          go_simp
          exact hK _ _ (Kp.refl _) rfl
        · exact Bool.noConfusion (show false = true from hw)
        · exact Bool.noConfusion (show false = true from hw)
        · exact Bool.noConfusion (show false = true from hw)
        · exact Bool.noConfusion (show false = true from hw)
        · exact Bool.noConfusion (show false = true from hw)
        · exact Bool.noConfusion (show false = true from hw)
        · exact Bool.noConfusion (show false = true from hw)
        · exact Bool.noConfusion (show false = true from hw)
        · exact Bool.noConfusion (show false = true from hw)
        · have t48 : a.tmps[48]?.getD undef = .bool false := f 31 rfl
          have t57 : a.tmps[57]?.getD undef = undef := f 40 rfl
          unfold Oper.wp
          simp only [execOp, Act.eval, Array.getD_eq_getD_getElem?]
          go_simp
          exact hK _ _ (Kp.refl _) rfl
        · have t58 : a.tmps[58]?.getD undef = .bool false := f 41 rfl
          unfold Oper.wp
          simp only [execOp, Act.eval, Array.getD_eq_getD_getElem?]
          go_simp
          exact hK _ _ (Kp.refl _) rfl
      intro w9 KV
      (try simp only [Exit.then])
      simp only [wrS, List.zip_cons_cons, List.zip_nil_right, List.foldl_cons, List.foldl_nil, List.setIfInBounds_toArray, List.set_cons_zero, List.set_cons_succ]
      go_wp2_with fail
      go_ret
      exact ⟨by rw [HN.out] <;> rfl, KV⟩
    | true =>
      have H2 := Lib.hid e2
      cases e3 : (T.now == U.now) with
      | false =>
        have HN := Lib.hid (show sameT T U = false by unfold sameT; rw [e1, e2, e3]; rfl)
        clear e1 e2
        go_enter Tryz.func34, Tryz.ntmps34
        go_upto_region 3 with (first | (go_at_call 56; first | (((with_reducible refine (none_tab t mp _ g9).mono ?_)); rintro e w' ⟨rfl, hw'⟩; rw [hw']; clear hw' w') | (((with_reducible refine (none_tab u mp2 _ k9).mono ?_)); rintro e w' ⟨rfl, hw'⟩; rw [hw']; clear hw' w')))
        refine wp_anyZ [17, 18, 19, 20, 21, 22, 23, 24, 25, 26, 27, 28, 29, 30, 31, 32, 33, 34, 35, 36, 37, 38, 39, 40, 41, 42, 43, 44, 45, 46, 47, 48, 49, 50, 51, 52, 53, 54, 55, 56, 57, 58, 4] [.pointer (some ⟨t, 0, none⟩), .pointer (some ⟨t, 0, none⟩), .pointer (some ⟨t, 1, none⟩), .agg #[.int .i64 T.c.t0, .int .i64 T.c.t1, .int .i64 T.c.t2, .int .i64 T.c.t3, .int .i64 T.c.t4, .int .i64 T.c.t5, .int .i64 T.c.t6, .int .i64 T.c.cap, .slice A T.c.own.length m], .pointer (some ⟨u, 0, none⟩), .pointer (some ⟨u, 0, none⟩), .pointer (some ⟨u, 1, none⟩), .agg #[.int .i64 U.c.t0, .int .i64 U.c.t1, .int .i64 U.c.t2, .int .i64 U.c.t3, .int .i64 U.c.t4, .int .i64 U.c.t5, .int .i64 U.c.t6, .int .i64 U.c.cap, .slice A2 U.c.own.length m2], .bool true, .bool true, .pointer (some ⟨t, 0, none⟩), .pointer (some ⟨t, 0, none⟩), .pointer (some ⟨t, 10, none⟩), .map (some mp), .pointer (some ⟨u, 0, none⟩), .pointer (some ⟨u, 0, none⟩), .pointer (some ⟨u, 10, none⟩), .map (some mp2), .bool true, .bool true, .bool true, .pointer (some ⟨t, 0, none⟩), .pointer (some ⟨t, 0, none⟩), .pointer (some ⟨t, 11, none⟩), .int .i64 T.now, .pointer (some ⟨u, 0, none⟩), .pointer (some ⟨u, 0, none⟩), .pointer (some ⟨u, 11, none⟩), .int .i64 U.now, .bool false, .bool false, .bool false, undef, undef, undef, undef, undef, undef, undef, undef, undef, .bool false, .bool false] [true, true, true, true, true, true, true, true, true, true, true, true, true, true, true, true, true, true, true, true, true, true, true, true, true, true, true, true, true, true, true, true, false, false, false, false, false, false, false, false, false, true, true] (by kernel_rfl) (by kernel_rfl) (by kernel_rfl) rfl rfl (by decide) rfl rfl rfl ?_ ?_
        · intro i o a w9 ho hw f g hkp K hK
          have hi : i < 43 := by have := (List.getElem?_eq_some_iff.1 ho).1; simpa using this
          have hcs : i = 0 ∨ i = 1 ∨ i = 2 ∨ i = 3 ∨ i = 4 ∨ i = 5 ∨ i = 6 ∨ i = 7 ∨ i = 8 ∨ i = 9 ∨ i = 10 ∨ i = 11 ∨ i = 12 ∨ i = 13 ∨ i = 14 ∨ i = 15 ∨ i = 16 ∨ i = 17 ∨ i = 18 ∨ i = 19 ∨ i = 20 ∨ i = 21 ∨ i = 22 ∨ i = 23 ∨ i = 24 ∨ i = 25 ∨ i = 26 ∨ i = 27 ∨ i = 28 ∨ i = 29 ∨ i = 30 ∨ i = 31 ∨ i = 32 ∨ i = 33 ∨ i = 34 ∨ i = 35 ∨ i = 36 ∨ i = 37 ∨ i = 38 ∨ i = 39 ∨ i = 40 ∨ i = 41 ∨ i = 42 := by omega
          clear hi
          rcases hcs with rfl | rfl | rfl | rfl | rfl | rfl | rfl | rfl | rfl | rfl | rfl | rfl | rfl | rfl | rfl | rfl | rfl | rfl | rfl | rfl | rfl | rfl | rfl | rfl | rfl | rfl | rfl | rfl | rfl | rfl | rfl | rfl | rfl | rfl | rfl | rfl | rfl | rfl | rfl | rfl | rfl | rfl | rfl
          all_goals
            first | simp only [List.getElem?_cons_zero, List.getElem?_cons_succ, Option.some.injEq] at ho | replace ho := Option.some.inj ho
            subst ho
          · have t0 : a.tmps[0]?.getD undef = .pointer (some ⟨t, 0, none⟩) := g 0 (by decide)
            unfold Oper.wp
            simp only [execOp, Act.eval, Array.getD_eq_getD_getElem?]
            go_simp
            exact hK _ _ (Kp.refl _) rfl
          · have t17 : a.tmps[17]?.getD undef = .pointer (some ⟨t, 0, none⟩) := f 0 rfl
            unfold Oper.wp
            simp only [execOp, Act.eval, Array.getD_eq_getD_getElem?]
            go_simp
            exact hK _ _ (Kp.refl _) rfl
          · have t18 : a.tmps[18]?.getD undef = .pointer (some ⟨t, 0, none⟩) := f 1 rfl
            unfold Oper.wp
            simp only [execOp, Act.eval, Array.getD_eq_getD_getElem?]
            go_simp
            exact hK _ _ (Kp.refl _) rfl
          · have t19 : a.tmps[19]?.getD undef = .pointer (some ⟨t, 1, none⟩) := f 2 rfl
            have c0 : w9.cell? ⟨t, 1, none⟩ = some (.int .i64 T.c.t0) := (HX.out.bk.keep hkp).cell 1
            have c1 : w9.cell? ⟨t, 2, none⟩ = some (.int .i64 T.c.t1) := (HX.out.bk.keep hkp).cell 2
            have c2 : w9.cell? ⟨t, 3, none⟩ = some (.int .i64 T.c.t2) := (HX.out.bk.keep hkp).cell 3
            have c3 : w9.cell? ⟨t, 4, none⟩ = some (.int .i64 T.c.t3) := (HX.out.bk.keep hkp).cell 4
            have c4 : w9.cell? ⟨t, 5, none⟩ = some (.int .i64 T.c.t4) := (HX.out.bk.keep hkp).cell 5
            have c5 : w9.cell? ⟨t, 6, none⟩ = some (.int .i64 T.c.t5) := (HX.out.bk.keep hkp).cell 6
            have c6 : w9.cell? ⟨t, 7, none⟩ = some (.int .i64 T.c.t6) := (HX.out.bk.keep hkp).cell 7
            have c7 : w9.cell? ⟨t, 8, none⟩ = some (.int .i64 T.c.cap) := (HX.out.bk.keep hkp).cell 8
            have c8 : w9.cell? ⟨t, 9, none⟩ = some (.slice A T.c.own.length m) := (HX.out.bk.keep hkp).cell 9
            unfold Oper.wp
            simp only [execOp, Act.eval, Array.getD_eq_getD_getElem?]
            go_simp
            exact hK _ _ (Kp.refl _) rfl
          · have t1 : a.tmps[1]?.getD undef = .pointer (some ⟨u, 0, none⟩) := g 1 (by decide)
            unfold Oper.wp
            simp only [execOp, Act.eval, Array.getD_eq_getD_getElem?]
            go_simp
            exact hK _ _ (Kp.refl _) rfl
          · have t21 : a.tmps[21]?.getD undef = .pointer (some ⟨u, 0, none⟩) := f 4 rfl
            unfold Oper.wp
            simp only [execOp, Act.eval, Array.getD_eq_getD_getElem?]
            go_simp
            exact hK _ _ (Kp.refl _) rfl
          · have t22 : a.tmps[22]?.getD undef = .pointer (some ⟨u, 0, none⟩) := f 5 rfl
            unfold Oper.wp
            simp only [execOp, Act.eval, Array.getD_eq_getD_getElem?]
            go_simp
            exact hK _ _ (Kp.refl _) rfl
          · have t23 : a.tmps[23]?.getD undef = .pointer (some ⟨u, 1, none⟩) := f 6 rfl
            have c0 : w9.cell? ⟨u, 1, none⟩ = some (.int .i64 U.c.t0) := (HY.out.bk.keep hkp).cell 1
            have c1 : w9.cell? ⟨u, 2, none⟩ = some (.int .i64 U.c.t1) := (HY.out.bk.keep hkp).cell 2
            have c2 : w9.cell? ⟨u, 3, none⟩ = some (.int .i64 U.c.t2) := (HY.out.bk.keep hkp).cell 3
            have c3 : w9.cell? ⟨u, 4, none⟩ = some (.int .i64 U.c.t3) := (HY.out.bk.keep hkp).cell 4
            have c4 : w9.cell? ⟨u, 5, none⟩ = some (.int .i64 U.c.t4) := (HY.out.bk.keep hkp).cell 5
            have c5 : w9.cell? ⟨u, 6, none⟩ = some (.int .i64 U.c.t5) := (HY.out.bk.keep hkp).cell 6
            have c6 : w9.cell? ⟨u, 7, none⟩ = some (.int .i64 U.c.t6) := (HY.out.bk.keep hkp).cell 7
            have c7 : w9.cell? ⟨u, 8, none⟩ = some (.int .i64 U.c.cap) := (HY.out.bk.keep hkp).cell 8
            have c8 : w9.cell? ⟨u, 9, none⟩ = some (.slice A2 U.c.own.length m2) := (HY.out.bk.keep hkp).cell 9
            unfold Oper.wp
            simp only [execOp, Act.eval, Array.getD_eq_getD_getElem?]
            go_simp
            exact hK _ _ (Kp.refl _) rfl
          · have t20 : a.tmps[20]?.getD undef = .agg #[.int .i64 T.c.t0, .int .i64 T.c.t1, .int .i64 T.c.t2, .int .i64 T.c.t3, .int .i64 T.c.t4, .int .i64 T.c.t5, .int .i64 T.c.t6, .int .i64 T.c.cap, .slice A T.c.own.length m] := f 3 rfl
            have t24 : a.tmps[24]?.getD undef = .agg #[.int .i64 U.c.t0, .int .i64 U.c.t1, .int .i64 U.c.t2, .int .i64 U.c.t3, .int .i64 U.c.t4, .int .i64 U.c.t5, .int .i64 U.c.t6, .int .i64 U.c.cap, .slice A2 U.c.own.length m2] := f 7 rfl
            unfold Oper.wp
            simp only [execOp, Act.eval, Array.getD_eq_getD_getElem?]
            go_simp
            refine (csame_any T.c U.c A A2 m m2 _ (HS.out.keep hkp) (HQ.out.keep hkp) hn hn2).mono ?_
            rintro e wa ⟨rfl, hKc⟩
            rw [H1.out]
            exact hK _ _ hKc rfl
          · have t25 : a.tmps[25]?.getD undef = .bool true := f 8 rfl
            unfold Oper.wp
            simp only [execOp, Act.eval, Array.getD_eq_getD_getElem?]
            go_simp
            exact hK _ _ (Kp.refl _) rfl
          · have t0 : a.tmps[0]?.getD undef = .pointer (some ⟨t, 0, none⟩) := g 0 (by decide)
            unfold Oper.wp
            simp only [execOp, Act.eval, Array.getD_eq_getD_getElem?]
            go_simp
            exact hK _ _ (Kp.refl _) rfl
          · have t27 : a.tmps[27]?.getD undef = .pointer (some ⟨t, 0, none⟩) := f 10 rfl
            unfold Oper.wp
            simp only [execOp, Act.eval, Array.getD_eq_getD_getElem?]
            go_simp
            exact hK _ _ (Kp.refl _) rfl
          · have t28 : a.tmps[28]?.getD undef = .pointer (some ⟨t, 0, none⟩) := f 11 rfl
            unfold Oper.wp
            simp only [execOp, Act.eval, Array.getD_eq_getD_getElem?]
            go_simp
            exact hK _ _ (Kp.refl _) rfl
          · have t29 : a.tmps[29]?.getD undef = .pointer (some ⟨t, 10, none⟩) := f 12 rfl
            have c0 : w9.cell? ⟨t, 10, none⟩ = some (.map (some mp)) := (HX.out.bk.keep hkp).cell 10
            unfold Oper.wp
            simp only [execOp, Act.eval, Array.getD_eq_getD_getElem?]
            go_simp
            exact hK _ _ (Kp.refl _) rfl
          · have t1 : a.tmps[1]?.getD undef = .pointer (some ⟨u, 0, none⟩) := g 1 (by decide)
            unfold Oper.wp
            simp only [execOp, Act.eval, Array.getD_eq_getD_getElem?]
            go_simp
            exact hK _ _ (Kp.refl _) rfl
          · have t31 : a.tmps[31]?.getD undef = .pointer (some ⟨u, 0, none⟩) := f 14 rfl
            unfold Oper.wp
            simp only [execOp, Act.eval, Array.getD_eq_getD_getElem?]
            go_simp
            exact hK _ _ (Kp.refl _) rfl
          · have t32 : a.tmps[32]?.getD undef = .pointer (some ⟨u, 0, none⟩) := f 15 rfl
            unfold Oper.wp
            simp only [execOp, Act.eval, Array.getD_eq_getD_getElem?]
            go_simp
            exact hK _ _ (Kp.refl _) rfl
          · have t33 : a.tmps[33]?.getD undef = .pointer (some ⟨u, 10, none⟩) := f 16 rfl
            have c0 : w9.cell? ⟨u, 10, none⟩ = some (.map (some mp2)) := (HY.out.bk.keep hkp).cell 10
            unfold Oper.wp
            simp only [execOp, Act.eval, Array.getD_eq_getD_getElem?]
            go_simp
            exact hK _ _ (Kp.refl _) rfl
          · have t30 : a.tmps[30]?.getD undef = .map (some mp) := f 13 rfl
            have t34 : a.tmps[34]?.getD undef = .map (some mp2) := f 17 rfl
            unfold Oper.wp
            simp only [execOp, Act.eval, Array.getD_eq_getD_getElem?]
            go_simp
            refine (mequal_any T.l U.l mp mp2 _ (HX.out.mr.keep hkp) (HY.out.mr.keep hkp) HX.out.u HY.out.u HX.out.wf HY.out.wf HX.out.n HY.out.n).mono ?_
            rintro e wb ⟨rfl, hKc⟩
            rw [H2.out]
            exact hK _ _ hKc rfl
          · have t26 : a.tmps[26]?.getD undef = .bool true := f 9 rfl
            have t35 : a.tmps[35]?.getD undef = .bool true := f 18 rfl
            unfold Oper.wp
            simp only [execOp, Act.eval, Array.getD_eq_getD_getElem?]
            go_simp
            exact hK _ _ (Kp.refl _) rfl
          · have t36 : a.tmps[36]?.getD undef = .bool true := f 19 rfl
            unfold Oper.wp
            simp only [execOp, Act.eval, Array.getD_eq_getD_getElem?]
            go_simp
            exact hK _ _ (Kp.refl _) rfl
          · have t0 : a.tmps[0]?.getD undef = .pointer (some ⟨t, 0, none⟩) := g 0 (by decide)
            unfold Oper.wp
            simp only [execOp, Act.eval, Array.getD_eq_getD_getElem?]
            go_simp
            exact hK _ _ (Kp.refl _) rfl
          · have t38 : a.tmps[38]?.getD undef = .pointer (some ⟨t, 0, none⟩) := f 21 rfl
            unfold Oper.wp
            simp only [execOp, Act.eval, Array.getD_eq_getD_getElem?]
            go_simp
            exact hK _ _ (Kp.refl _) rfl
          · have t39 : a.tmps[39]?.getD undef = .pointer (some ⟨t, 0, none⟩) := f 22 rfl
            unfold Oper.wp
            simp only [execOp, Act.eval, Array.getD_eq_getD_getElem?]
            go_simp
            exact hK _ _ (Kp.refl _) rfl
          · have t40 : a.tmps[40]?.getD undef = .pointer (some ⟨t, 11, none⟩) := f 23 rfl
            have c0 : w9.cell? ⟨t, 11, none⟩ = some (.int .i64 T.now) := (HX.out.bk.keep hkp).cell 11
            unfold Oper.wp
            simp only [execOp, Act.eval, Array.getD_eq_getD_getElem?]
            go_simp
            exact hK _ _ (Kp.refl _) rfl
          · have t1 : a.tmps[1]?.getD undef = .pointer (some ⟨u, 0, none⟩) := g 1 (by decide)
            unfold Oper.wp
            simp only [execOp, Act.eval, Array.getD_eq_getD_getElem?]
            go_simp
            exact hK _ _ (Kp.refl _) rfl
          · have t42 : a.tmps[42]?.getD undef = .pointer (some ⟨u, 0, none⟩) := f 25 rfl
            unfold Oper.wp
            simp only [execOp, Act.eval, Array.getD_eq_getD_getElem?]
            go_simp
            exact hK _ _ (Kp.refl _) rfl
          · have t43 : a.tmps[43]?.getD undef = .pointer (some ⟨u, 0, none⟩) := f 26 rfl
            unfold Oper.wp
            simp only [execOp, Act.eval, Array.getD_eq_getD_getElem?]
            go_simp
            exact hK _ _ (Kp.refl _) rfl
          · have t44 : a.tmps[44]?.getD undef = .pointer (some ⟨u, 11, none⟩) := f 27 rfl
            have c0 : w9.cell? ⟨u, 11, none⟩ = some (.int .i64 U.now) := (HY.out.bk.keep hkp).cell 11
            unfold Oper.wp
            simp only [execOp, Act.eval, Array.getD_eq_getD_getElem?]
            go_simp
            exact hK _ _ (Kp.refl _) rfl
          · have t41 : a.tmps[41]?.getD undef = .int .i64 T.now := f 24 rfl
            have t45 : a.tmps[45]?.getD undef = .int .i64 U.now := f 28 rfl
            unfold Oper.wp
            simp only [execOp, Act.eval, Array.getD_eq_getD_getElem?]
            go_simp
            exact hK _ _ (Kp.refl _) rfl
          · have t37 : a.tmps[37]?.getD undef = .bool true := f 20 rfl
            have t46 : a.tmps[46]?.getD undef = .bool false := f 29 rfl
            unfold Oper.wp
            simp only [execOp, Act.eval, Array.getD_eq_getD_getElem?]
            go_simp
            exact hK _ _ (Kp.refl _) rfl
          · have t47 : a.tmps[47]?.getD undef = .bool false := f 30 rfl
            unfold Oper.wp
            simp only [execOp, Act.eval, Array.getD_eq_getD_getElem?]
            go_simp
            exact hK _ _ (Kp.refl _) rfl
          · exact Bool.noConfusion (show false = true from hw)
          · exact Bool.noConfusion (show false = true from hw)
          · exact Bool.noConfusion (show false = true from hw)
          · exact Bool.noConfusion (show false = true from hw)
          · exact Bool.noConfusion (show false = true from hw)
          · exact Bool.noConfusion (show false = true from hw)
          · exact Bool.noConfusion (show false = true from hw)
          · exact Bool.noConfusion (show false = true from hw)
          · exact Bool.noConfusion (show false = true from hw)
          · have t48 : a.tmps[48]?.getD undef = .bool false := f 31 rfl
            have t57 : a.tmps[57]?.getD undef = undef := f 40 rfl
            unfold Oper.wp
            simp only [execOp, Act.eval, Array.getD_eq_getD_getElem?]
            go_simp
            exact hK _ _ (Kp.refl _) rfl
          · have t58 : a.tmps[58]?.getD undef = .bool false := f 41 rfl
            unfold Oper.wp
            simp only [execOp, Act.eval, Array.getD_eq_getD_getElem?]
            go_simp
            exact hK _ _ (Kp.refl _) rfl
        intro w9 KV
        (try simp only [Exit.then])
        simp only [wrS, List.zip_cons_cons, List.zip_nil_right, List.foldl_cons, List.foldl_nil, List.setIfInBounds_toArray, List.set_cons_zero, List.set_cons_succ]
        go_wp2_with fail
        go_ret
        exact ⟨by rw [HN.out] <;> rfl, KV⟩
      | true =>
        obtain ⟨z, hz⟩ : ∃ z, (T.rf == U.rf) = z := ⟨_, rfl⟩
        have HN := Lib.hid (show sameT T U = z by unfold sameT; rw [e1, e2, e3, hz]; rfl)
        clear e1 e2
        go_enter Tryz.func34, Tryz.ntmps34
        go_upto_region 3 with (first | (go_at_call 56; first | (((with_reducible refine (none_tab t mp _ g9).mono ?_)); rintro e w' ⟨rfl, hw'⟩; rw [hw']; clear hw' w') | (((with_reducible refine (none_tab u mp2 _ k9).mono ?_)); rintro e w' ⟨rfl, hw'⟩; rw [hw']; clear hw' w')))
        have K : Kp w w.drew := (Kp.refl w).drew
        go_region_held3 (fun w' => w'.cell? ⟨t, 1, none⟩ = some (.int .i64 T.c.t0) ∧ w'.cell? ⟨t, 2, none⟩ = some (.int .i64 T.c.t1) ∧ w'.cell? ⟨t, 3, none⟩ = some (.int .i64 T.c.t2) ∧ w'.cell? ⟨t, 4, none⟩ = some (.int .i64 T.c.t3) ∧ w'.cell? ⟨t, 5, none⟩ = some (.int .i64 T.c.t4) ∧ w'.cell? ⟨t, 6, none⟩ = some (.int .i64 T.c.t5) ∧ w'.cell? ⟨t, 7, none⟩ = some (.int .i64 T.c.t6) ∧ w'.cell? ⟨t, 8, none⟩ = some (.int .i64 T.c.cap) ∧ w'.cell? ⟨t, 9, none⟩ = some (.slice A T.c.own.length m) ∧ w'.cell? ⟨t, 10, none⟩ = some (.map (some mp)) ∧ w'.cell? ⟨t, 11, none⟩ = some (.int .i64 T.now) ∧ w'.cell? ⟨t, 12, none⟩ = some (.int .i64 T.rf) ∧ w'.cell? ⟨u, 1, none⟩ = some (.int .i64 U.c.t0) ∧ w'.cell? ⟨u, 2, none⟩ = some (.int .i64 U.c.t1) ∧ w'.cell? ⟨u, 3, none⟩ = some (.int .i64 U.c.t2) ∧ w'.cell? ⟨u, 4, none⟩ = some (.int .i64 U.c.t3) ∧ w'.cell? ⟨u, 5, none⟩ = some (.int .i64 U.c.t4) ∧ w'.cell? ⟨u, 6, none⟩ = some (.int .i64 U.c.t5) ∧ w'.cell? ⟨u, 7, none⟩ = some (.int .i64 U.c.t6) ∧ w'.cell? ⟨u, 8, none⟩ = some (.int .i64 U.c.cap) ∧ w'.cell? ⟨u, 9, none⟩ = some (.slice A2 U.c.own.length m2) ∧ w'.cell? ⟨u, 10, none⟩ = some (.map (some mp2)) ∧ w'.cell? ⟨u, 11, none⟩ = some (.int .i64 U.now) ∧ w'.cell? ⟨u, 12, none⟩ = some (.int .i64 U.rf))
          (first | exact ⟨K.cell g0, K.cell g1, K.cell g2, K.cell g3, K.cell g4, K.cell g5, K.cell g6, K.cell g7, K.cell g8, K.cell g9, K.cell g10, K.cell g11, K.cell k0, K.cell k1, K.cell k2, K.cell k3, K.cell k4, K.cell k5, K.cell k6, K.cell k7, K.cell k8, K.cell k9, K.cell k10, K.cell k11⟩ | go_keep)
          (first
            | (go_at_call 76; refine (csame_any T.c U.c A A2 m m2 _ (HS.out.keep K) (HQ.out.keep K) hn hn2).mono ?_; rintro e wa ⟨rfl, hKa⟩; rw [H1.out]; have K := K.trans hKa)
            | (go_at_call 77; refine (mequal_any T.l U.l mp mp2 _ (HX.out.mr.keep K) (HY.out.mr.keep K) HX.out.u HY.out.u HX.out.wf HY.out.wf HX.out.n HY.out.n).mono ?_; rintro e wb ⟨rfl, hKb⟩; rw [H2.out]; have K := K.trans hKb))
        all_goals
          go_wp2_with fail
          go_ret
          exact ⟨by rw [HN.out] <;> rfl, K⟩
end Go.Proofs.YtffckpkikdlbpaaGreatDoor
