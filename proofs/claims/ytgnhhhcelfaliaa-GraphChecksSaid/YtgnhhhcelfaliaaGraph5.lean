/- GraphChecks: whatever graphs, link and word: the law returns true, and what was there stands. -/
import Derived.Test.YtgnhhhcelfaliaaGraphT
import Derived.Test.YtgnhhhcelfaliaaGraph1
import Derived.Deep.RegionHeld3
namespace Go.Proofs.Ytgnhhhcelfaliaa
open Go.RowKit

theorem sameG_symm (R S : Int) (xs ys : List Lk) : sameG R S xs ys = sameG S R ys xs := by
  unfold sameG
  rw [Bool.eq_iff_iff]
  simp only [Bool.and_eq_true, beq_iff_eq, decide_eq_true_eq]
  constructor <;> rintro ⟨rfl, rfl⟩ <;> exact ⟨rfl, rfl⟩
theorem rsame_q (R S : Int) (A B : Option Addr) (c d p q : Nat) (xs ys : List Lk) (w : World) (hp : p = xs.length) (hq : q = ys.length) (hA : Rd w 3 Lk.enc A xs) (hB : Rd w 3 Lk.enc B ys) (hn : xs.length ≤ 1000000) :
    Calls Try.prog 31 #[.agg #[.int .i64 R, .slice A p c], .agg #[.int .i64 S, .slice B q d]] w fun e w' => e = .returned (.bool (sameG R S xs ys)) ∧ Kp w w' := by
  subst hp hq; exact rsame_any R S A B c d xs ys w hA hB hn
theorem sameG_self (R : Int) (xs : List Lk) : sameG R R xs xs = true := by simp [sameG]

set_option maxRecDepth 100000 in
set_option maxHeartbeats 4000000 in
theorem checks_a (R S : Int) (l : Int) (up : Bool) (A A2 : Option Addr) (c c2 : Nat) (ls ls2 : List Lk) (w : World) (hR : Rd w 3 Lk.enc A ls) (hn : ls.length ≤ 30) (hR2 : Rd w 3 Lk.enc A2 ls2) (hn2 : ls2.length ≤ 30) (hr : right R ls = false) :
    Calls Try.prog 7 #[.agg #[.int .i64 R, .slice A ls.length c], .agg #[.int .i64 S, .slice A2 ls2.length c2], .int .i64 l, .bool up] w fun e w' => e = .returned (.bool true) ∧ Kp w w' := by
  have H := Lib.hid (few_yes hn)
  have H2 := Lib.hid (few_yes hn2)
  have He := Lib.hid (show checkE R ls = 2 by simp [checkE, hr])
  have Hse := Lib.hid (show setErr R ls l = 2 by simp [setErr, hr])
  have Hr := Lib.hid hr; clear hr
  have Hs1 := Lib.hid (sameG_symm R S ls ls2)
  have Hs2 := Lib.hid (sameG_self R ls)
  go_enter Try.func7, Try.ntmps7
  go_wp2_with fail
  refine (few_any R A ls.length c _).mono ?_
  rintro e w1 ⟨rfl, hK1⟩
  rw [H.out]
  have net : Hid (∀ W, Kp w1 W → Kp w W ∧ Blk W w.heap.size 24 #[.int .i64 R, .slice A ls.length c] ∧ Blk W (w.heap.size + 1) 24 #[.int .i64 S, .slice A2 ls2.length c2] ∧ Rd W 3 Lk.enc A ls ∧ Rd W 3 Lk.enc A2 ls2) := fun W h =>
    ⟨(((Kp.refl _).alloc _).alloc _).trans (hK1.trans h), ((Blk.new w _ _).alloc _).keep (hK1.trans h), (Blk.new1 w _ _ _).keep (hK1.trans h), hR.keep ((((Kp.refl _).alloc _).alloc _).trans (hK1.trans h)), hR2.keep ((((Kp.refl _).alloc _).alloc _).trans (hK1.trans h))⟩
  clear hK1 hR hR2
  obtain ⟨kw, G, G2, r0, r1⟩ := net.out w1 (Kp.refl _)
  have g0 : w1.cell? ⟨w.heap.size, 0, none⟩ = some (.int .i64 R) := G.cell 0
  have g1 : w1.cell? ⟨w.heap.size, 1, none⟩ = some (.slice A ls.length c) := G.cell 1
  have g2 : w1.cell? ⟨w.heap.size + 1, 0, none⟩ = some (.int .i64 S) := G2.cell 0
  have g3 : w1.cell? ⟨w.heap.size + 1, 1, none⟩ = some (.slice A2 ls2.length c2) := G2.cell 1
  go_wp2_with fail
  refine (few_any S A2 ls2.length c2 _).mono ?_
  rintro e w2 ⟨rfl, K2⟩
  rw [H2.out]
  clear kw G G2 r0 r1 g0 g1 g2 g3
  obtain ⟨kw, G, G2, r0, r1⟩ := net.out w2 K2
  have g0 : w2.cell? ⟨w.heap.size, 0, none⟩ = some (.int .i64 R) := G.cell 0
  have g1 : w2.cell? ⟨w.heap.size, 1, none⟩ = some (.slice A ls.length c) := G.cell 1
  have g2 : w2.cell? ⟨w.heap.size + 1, 0, none⟩ = some (.int .i64 S) := G2.cell 0
  have g3 : w2.cell? ⟨w.heap.size + 1, 1, none⟩ = some (.slice A2 ls2.length c2) := G2.cell 1
  go_wp2_with fail
  refine (gcheck_any R A c ls _ r0 hn).mono ?_
  rintro e w3 ⟨rfl, hK3⟩
  rw [He.out]
  have K3 := K2.trans hK3
  clear kw G G2 r0 r1 g0 g1 g2 g3
  obtain ⟨kw, G, G2, r0, r1⟩ := net.out w3 K3
  have g0 : w3.cell? ⟨w.heap.size, 0, none⟩ = some (.int .i64 R) := G.cell 0
  have g1 : w3.cell? ⟨w.heap.size, 1, none⟩ = some (.slice A ls.length c) := G.cell 1
  have g2 : w3.cell? ⟨w.heap.size + 1, 0, none⟩ = some (.int .i64 S) := G2.cell 0
  have g3 : w3.cell? ⟨w.heap.size + 1, 1, none⟩ = some (.slice A2 ls2.length c2) := G2.cell 1
  go_wp2_with (go_at_call 15; refine (num_any _ _).mono ?_; rintro e w' ⟨rfl, rfl⟩)
  refine (rsame_any R S A A2 c c2 ls ls2 _ r0 r1 (by omega)).mono ?_
  rintro e w4 ⟨rfl, hK4⟩
  have K4 := K3.trans hK4
  clear kw G G2 r0 r1 g0 g1 g2 g3
  obtain ⟨kw, G, G2, r0, r1⟩ := net.out w4 K4
  have g0 : w4.cell? ⟨w.heap.size, 0, none⟩ = some (.int .i64 R) := G.cell 0
  have g1 : w4.cell? ⟨w.heap.size, 1, none⟩ = some (.slice A ls.length c) := G.cell 1
  have g2 : w4.cell? ⟨w.heap.size + 1, 0, none⟩ = some (.int .i64 S) := G2.cell 0
  have g3 : w4.cell? ⟨w.heap.size + 1, 1, none⟩ = some (.slice A2 ls2.length c2) := G2.cell 1
  go_wp2_with fail
  refine (rright_any R A c ls _ r0 hn).mono ?_
  rintro e w5 ⟨rfl, hK5⟩
  rw [Hr.out]
  have K5 := K4.trans hK5
  clear kw G G2 r0 r1 g0 g1 g2 g3
  obtain ⟨kw, G, G2, r0, r1⟩ := net.out w5 K5
  have g0 : w5.cell? ⟨w.heap.size, 0, none⟩ = some (.int .i64 R) := G.cell 0
  have g1 : w5.cell? ⟨w.heap.size, 1, none⟩ = some (.slice A ls.length c) := G.cell 1
  have g2 : w5.cell? ⟨w.heap.size + 1, 0, none⟩ = some (.int .i64 S) := G2.cell 0
  have g3 : w5.cell? ⟨w.heap.size + 1, 1, none⟩ = some (.slice A2 ls2.length c2) := G2.cell 1
  go_wp2_with fail
  refine (gsame_any R S A A2 c c2 ls ls2 _ r0 r1 (by omega)).mono ?_
  rintro e w6 ⟨rfl, hK6⟩
  have K6 := K5.trans hK6
  clear kw G G2 r0 r1 g0 g1 g2 g3
  obtain ⟨kw, G, G2, r0, r1⟩ := net.out w6 K6
  have g0 : w6.cell? ⟨w.heap.size, 0, none⟩ = some (.int .i64 R) := G.cell 0
  have g1 : w6.cell? ⟨w.heap.size, 1, none⟩ = some (.slice A ls.length c) := G.cell 1
  have g2 : w6.cell? ⟨w.heap.size + 1, 0, none⟩ = some (.int .i64 S) := G2.cell 0
  have g3 : w6.cell? ⟨w.heap.size + 1, 1, none⟩ = some (.slice A2 ls2.length c2) := G2.cell 1
  have hsm : (sameG R S ls ls2 != sameG R S ls ls2) = false := by simp
  go_wp2_with fail
  refine (gsame_any S R A2 A c2 c ls2 ls _ r1 r0 (by omega)).mono ?_
  rintro e w7 ⟨rfl, hK7⟩
  rw [← Hs1.out]
  have K7 := K6.trans hK7
  clear kw G G2 r0 r1 g0 g1 g2 g3
  obtain ⟨kw, G, G2, r0, r1⟩ := net.out w7 K7
  have g0 : w7.cell? ⟨w.heap.size, 0, none⟩ = some (.int .i64 R) := G.cell 0
  have g1 : w7.cell? ⟨w.heap.size, 1, none⟩ = some (.slice A ls.length c) := G.cell 1
  have g2 : w7.cell? ⟨w.heap.size + 1, 0, none⟩ = some (.int .i64 S) := G2.cell 0
  have g3 : w7.cell? ⟨w.heap.size + 1, 1, none⟩ = some (.slice A2 ls2.length c2) := G2.cell 1
  go_wp2_with fail
  refine (gsame_any R R A A c c ls ls _ r0 r0 (by omega)).mono ?_
  rintro e w8 ⟨rfl, hK8⟩
  rw [Hs2.out]
  have K8 := K7.trans hK8
  clear kw G G2 r0 r1 g0 g1 g2 g3
  obtain ⟨kw, G, G2, r0, r1⟩ := net.out w8 K8
  have g0 : w8.cell? ⟨w.heap.size, 0, none⟩ = some (.int .i64 R) := G.cell 0
  have g1 : w8.cell? ⟨w.heap.size, 1, none⟩ = some (.slice A ls.length c) := G.cell 1
  have g2 : w8.cell? ⟨w.heap.size + 1, 0, none⟩ = some (.int .i64 S) := G2.cell 0
  have g3 : w8.cell? ⟨w.heap.size + 1, 1, none⟩ = some (.slice A2 ls2.length c2) := G2.cell 1
  have hE : Own (w8.alloc (.cells #[] 54)) w8.heap.size 54 3 Lk.enc (.slice (some ⟨w8.heap.size, 0, none⟩) 0 0) [] := Own.empty (Nat.le_refl _) (Blk.new w8 _ _)
  have gg1 : ∀ o, (w8.alloc o).cell? ⟨w.heap.size, 1, none⟩ = some (.slice A ls.length c) := fun o => ((net.out _ (K8.alloc o)).2.1).cell 1
  have rr0 : ∀ o, Rd (w8.alloc o) 3 Lk.enc A ls := fun o => (net.out _ (K8.alloc o)).2.2.2.1
  have Hrr := Lib.hid rr0; clear rr0
  go_upto_region 8 with (at_builtin; go_loud (refine wpList_appl ELk Lk.len Lk.one rfl _ _ rfl rfl rfl hE (Hrr.out _) (by simp; omega) (by simp) ?_; intro v9 w9 hown9 hg hat; rw [List.nil_append] at hown9; have hK9 : Kp w8 w9 := ((Kp.refl w8).alloc _).grown hg (fun q hq => (World.ownsRow.lt hE q hq).1); clear hg hat hE; obtain ⟨A9, c9, rfl, hr9⟩ := hown9.rd (by omega) Lk.len; clear hown9; have K9 := K8.trans hK9))
  clear gg1 Hrr hsm
  clear kw G G2 r0 r1 g0 g1 g2 g3
  obtain ⟨kw, G, G2, r0, r1⟩ := net.out w9 K9
  have g0 : w9.cell? ⟨w.heap.size, 0, none⟩ = some (.int .i64 R) := G.cell 0
  have g1 : w9.cell? ⟨w.heap.size, 1, none⟩ = some (.slice A ls.length c) := G.cell 1
  have g2 : w9.cell? ⟨w.heap.size + 1, 0, none⟩ = some (.int .i64 S) := G2.cell 0
  have g3 : w9.cell? ⟨w.heap.size + 1, 1, none⟩ = some (.slice A2 ls2.length c2) := G2.cell 1
  go_wp2_with fail
  refine (gset_no R l up A c ls _ r0 hn (by rw [Hse.out]; omega)).mono ?_
  rintro e w10 ⟨rfl, hK10⟩
  rw [Hse.out]
  have K10 := K9.trans hK10
  have hr10 := hr9.keep hK10
  have X10 := Blk.new w10 24 #[.int .i64 0, .slice none 0 0]
  clear kw G G2 r0 r1 g0 g1 g2 g3
  obtain ⟨kw, G, G2, r0, r1⟩ := net.out w10 K10
  have g0 : w10.cell? ⟨w.heap.size, 0, none⟩ = some (.int .i64 R) := G.cell 0
  have g1 : w10.cell? ⟨w.heap.size, 1, none⟩ = some (.slice A ls.length c) := G.cell 1
  have g2 : w10.cell? ⟨w.heap.size + 1, 0, none⟩ = some (.int .i64 S) := G2.cell 0
  have g3 : w10.cell? ⟨w.heap.size + 1, 1, none⟩ = some (.slice A2 ls2.length c2) := G2.cell 1
  have q0 : ∀ o, (w10.alloc o).cell? ⟨w.heap.size, 0, none⟩ = some (.int .i64 R) := fun o => ((net.out _ (K10.alloc o)).2.1).cell 0
  have q1 : ∀ o, (w10.alloc o).cell? ⟨w.heap.size, 1, none⟩ = some (.slice A ls.length c) := fun o => ((net.out _ (K10.alloc o)).2.1).cell 1
  go_wp2_with fail
  refine (rsame_any R R A A9 c c9 ls ls _ (net.out _ (K10.alloc _)).2.2.2.1 (hr10.keep ((Kp.refl _).alloc _)) (by omega)).mono ?_
  rintro e w11 ⟨rfl, hK11⟩
  rw [Hs2.out]
  have K11 := (K10.alloc (.cells #[.int .i64 0, .slice none 0 0] 24)).trans hK11
  have X11 := X10.keep hK11
  clear q0 q1 hr10 X10
  clear kw G G2 r0 r1 g0 g1 g2 g3
  obtain ⟨kw, G, G2, r0, r1⟩ := net.out w11 K11
  have g0 : w11.cell? ⟨w.heap.size, 0, none⟩ = some (.int .i64 R) := G.cell 0
  have g1 : w11.cell? ⟨w.heap.size, 1, none⟩ = some (.slice A ls.length c) := G.cell 1
  have g2 : w11.cell? ⟨w.heap.size + 1, 0, none⟩ = some (.int .i64 S) := G2.cell 0
  have g3 : w11.cell? ⟨w.heap.size + 1, 1, none⟩ = some (.slice A2 ls2.length c2) := G2.cell 1
  go_wp2_with fail
  refine (rright_any R A c ls _ r0 hn).mono ?_
  rintro e w12 ⟨rfl, hK12⟩
  rw [Hr.out]
  have K12 := K11.trans hK12
  have X12 := X11.keep hK12
  clear kw G G2 r0 r1 g0 g1 g2 g3
  obtain ⟨kw, G, G2, r0, r1⟩ := net.out w12 K12
  have g0 : w12.cell? ⟨w.heap.size, 0, none⟩ = some (.int .i64 R) := G.cell 0
  have g1 : w12.cell? ⟨w.heap.size, 1, none⟩ = some (.slice A ls.length c) := G.cell 1
  have g2 : w12.cell? ⟨w.heap.size + 1, 0, none⟩ = some (.int .i64 S) := G2.cell 0
  have g3 : w12.cell? ⟨w.heap.size + 1, 1, none⟩ = some (.slice A2 ls2.length c2) := G2.cell 1
  have x0 : w12.cell? ⟨w10.heap.size, 0, none⟩ = some (.int .i64 0) := X12.cell 0
  have x1 : w12.cell? ⟨w10.heap.size, 1, none⟩ = some (.slice none 0 0) := X12.cell 1
  go_wp2_with (go_at_call 15; refine (num_any _ _).mono ?_; rintro e w' ⟨rfl, rfl⟩)
  refine (works_any _).mono ?_
  rintro e w13 ⟨rfl, hK13⟩
  go_wp2_with fail
  go_ret
  exact ⟨rfl, kw.trans hK13⟩

set_option maxRecDepth 100000 in
set_option maxHeartbeats 4000000 in
theorem checks_b (R S : Int) (l : Int) (up : Bool) (A A2 : Option Addr) (c c2 : Nat) (ls ls2 : List Lk) (w : World) (hR : Rd w 3 Lk.enc A ls) (hn : ls.length ≤ 30) (hR2 : Rd w 3 Lk.enc A2 ls2) (hn2 : ls2.length ≤ 30) (hr : right R ls = true) (hl : l < 0 ∨ (ls.length : Int) ≤ l) :
    Calls Try.prog 7 #[.agg #[.int .i64 R, .slice A ls.length c], .agg #[.int .i64 S, .slice A2 ls2.length c2], .int .i64 l, .bool up] w fun e w' => e = .returned (.bool true) ∧ Kp w w' := by
  have H := Lib.hid (few_yes hn)
  have H2 := Lib.hid (few_yes hn2)
  have He := Lib.hid (show checkE R ls = 0 by simp [checkE, hr])
  have Hse := Lib.hid (show setErr R ls l = 4 by unfold setErr; rw [hr, if_pos rfl, if_neg (by omega)])
  have Hr := Lib.hid hr; clear hr
  have Hs1 := Lib.hid (sameG_symm R S ls ls2)
  have Hs2 := Lib.hid (sameG_self R ls)
  go_enter Try.func7, Try.ntmps7
  go_wp2_with fail
  refine (few_any R A ls.length c _).mono ?_
  rintro e w1 ⟨rfl, hK1⟩
  rw [H.out]
  have net : Hid (∀ W, Kp w1 W → Kp w W ∧ Blk W w.heap.size 24 #[.int .i64 R, .slice A ls.length c] ∧ Blk W (w.heap.size + 1) 24 #[.int .i64 S, .slice A2 ls2.length c2] ∧ Rd W 3 Lk.enc A ls ∧ Rd W 3 Lk.enc A2 ls2) := fun W h =>
    ⟨(((Kp.refl _).alloc _).alloc _).trans (hK1.trans h), ((Blk.new w _ _).alloc _).keep (hK1.trans h), (Blk.new1 w _ _ _).keep (hK1.trans h), hR.keep ((((Kp.refl _).alloc _).alloc _).trans (hK1.trans h)), hR2.keep ((((Kp.refl _).alloc _).alloc _).trans (hK1.trans h))⟩
  clear hK1 hR hR2
  obtain ⟨kw, G, G2, r0, r1⟩ := net.out w1 (Kp.refl _)
  have g0 : w1.cell? ⟨w.heap.size, 0, none⟩ = some (.int .i64 R) := G.cell 0
  have g1 : w1.cell? ⟨w.heap.size, 1, none⟩ = some (.slice A ls.length c) := G.cell 1
  have g2 : w1.cell? ⟨w.heap.size + 1, 0, none⟩ = some (.int .i64 S) := G2.cell 0
  have g3 : w1.cell? ⟨w.heap.size + 1, 1, none⟩ = some (.slice A2 ls2.length c2) := G2.cell 1
  go_wp2_with fail
  refine (few_any S A2 ls2.length c2 _).mono ?_
  rintro e w2 ⟨rfl, K2⟩
  rw [H2.out]
  clear kw G G2 r0 r1 g0 g1 g2 g3
  obtain ⟨kw, G, G2, r0, r1⟩ := net.out w2 K2
  have g0 : w2.cell? ⟨w.heap.size, 0, none⟩ = some (.int .i64 R) := G.cell 0
  have g1 : w2.cell? ⟨w.heap.size, 1, none⟩ = some (.slice A ls.length c) := G.cell 1
  have g2 : w2.cell? ⟨w.heap.size + 1, 0, none⟩ = some (.int .i64 S) := G2.cell 0
  have g3 : w2.cell? ⟨w.heap.size + 1, 1, none⟩ = some (.slice A2 ls2.length c2) := G2.cell 1
  go_wp2_with fail
  refine (gcheck_any R A c ls _ r0 hn).mono ?_
  rintro e w3 ⟨rfl, hK3⟩
  rw [He.out]
  have K3 := K2.trans hK3
  clear kw G G2 r0 r1 g0 g1 g2 g3
  obtain ⟨kw, G, G2, r0, r1⟩ := net.out w3 K3
  have g0 : w3.cell? ⟨w.heap.size, 0, none⟩ = some (.int .i64 R) := G.cell 0
  have g1 : w3.cell? ⟨w.heap.size, 1, none⟩ = some (.slice A ls.length c) := G.cell 1
  have g2 : w3.cell? ⟨w.heap.size + 1, 0, none⟩ = some (.int .i64 S) := G2.cell 0
  have g3 : w3.cell? ⟨w.heap.size + 1, 1, none⟩ = some (.slice A2 ls2.length c2) := G2.cell 1
  go_wp2_with (go_at_call 15; refine (num_any _ _).mono ?_; rintro e w' ⟨rfl, rfl⟩)
  refine (rsame_any R S A A2 c c2 ls ls2 _ r0 r1 (by omega)).mono ?_
  rintro e w4 ⟨rfl, hK4⟩
  have K4 := K3.trans hK4
  clear kw G G2 r0 r1 g0 g1 g2 g3
  obtain ⟨kw, G, G2, r0, r1⟩ := net.out w4 K4
  have g0 : w4.cell? ⟨w.heap.size, 0, none⟩ = some (.int .i64 R) := G.cell 0
  have g1 : w4.cell? ⟨w.heap.size, 1, none⟩ = some (.slice A ls.length c) := G.cell 1
  have g2 : w4.cell? ⟨w.heap.size + 1, 0, none⟩ = some (.int .i64 S) := G2.cell 0
  have g3 : w4.cell? ⟨w.heap.size + 1, 1, none⟩ = some (.slice A2 ls2.length c2) := G2.cell 1
  go_wp2_with fail
  refine (rright_any R A c ls _ r0 hn).mono ?_
  rintro e w5 ⟨rfl, hK5⟩
  rw [Hr.out]
  have K5 := K4.trans hK5
  clear kw G G2 r0 r1 g0 g1 g2 g3
  obtain ⟨kw, G, G2, r0, r1⟩ := net.out w5 K5
  have g0 : w5.cell? ⟨w.heap.size, 0, none⟩ = some (.int .i64 R) := G.cell 0
  have g1 : w5.cell? ⟨w.heap.size, 1, none⟩ = some (.slice A ls.length c) := G.cell 1
  have g2 : w5.cell? ⟨w.heap.size + 1, 0, none⟩ = some (.int .i64 S) := G2.cell 0
  have g3 : w5.cell? ⟨w.heap.size + 1, 1, none⟩ = some (.slice A2 ls2.length c2) := G2.cell 1
  go_wp2_with fail
  refine (gsame_any R S A A2 c c2 ls ls2 _ r0 r1 (by omega)).mono ?_
  rintro e w6 ⟨rfl, hK6⟩
  have K6 := K5.trans hK6
  clear kw G G2 r0 r1 g0 g1 g2 g3
  obtain ⟨kw, G, G2, r0, r1⟩ := net.out w6 K6
  have g0 : w6.cell? ⟨w.heap.size, 0, none⟩ = some (.int .i64 R) := G.cell 0
  have g1 : w6.cell? ⟨w.heap.size, 1, none⟩ = some (.slice A ls.length c) := G.cell 1
  have g2 : w6.cell? ⟨w.heap.size + 1, 0, none⟩ = some (.int .i64 S) := G2.cell 0
  have g3 : w6.cell? ⟨w.heap.size + 1, 1, none⟩ = some (.slice A2 ls2.length c2) := G2.cell 1
  have hsm : (sameG R S ls ls2 != sameG R S ls ls2) = false := by simp
  go_wp2_with fail
  refine (gsame_any S R A2 A c2 c ls2 ls _ r1 r0 (by omega)).mono ?_
  rintro e w7 ⟨rfl, hK7⟩
  rw [← Hs1.out]
  have K7 := K6.trans hK7
  clear kw G G2 r0 r1 g0 g1 g2 g3
  obtain ⟨kw, G, G2, r0, r1⟩ := net.out w7 K7
  have g0 : w7.cell? ⟨w.heap.size, 0, none⟩ = some (.int .i64 R) := G.cell 0
  have g1 : w7.cell? ⟨w.heap.size, 1, none⟩ = some (.slice A ls.length c) := G.cell 1
  have g2 : w7.cell? ⟨w.heap.size + 1, 0, none⟩ = some (.int .i64 S) := G2.cell 0
  have g3 : w7.cell? ⟨w.heap.size + 1, 1, none⟩ = some (.slice A2 ls2.length c2) := G2.cell 1
  go_wp2_with fail
  refine (gsame_any R R A A c c ls ls _ r0 r0 (by omega)).mono ?_
  rintro e w8 ⟨rfl, hK8⟩
  rw [Hs2.out]
  have K8 := K7.trans hK8
  clear kw G G2 r0 r1 g0 g1 g2 g3
  obtain ⟨kw, G, G2, r0, r1⟩ := net.out w8 K8
  have g0 : w8.cell? ⟨w.heap.size, 0, none⟩ = some (.int .i64 R) := G.cell 0
  have g1 : w8.cell? ⟨w.heap.size, 1, none⟩ = some (.slice A ls.length c) := G.cell 1
  have g2 : w8.cell? ⟨w.heap.size + 1, 0, none⟩ = some (.int .i64 S) := G2.cell 0
  have g3 : w8.cell? ⟨w.heap.size + 1, 1, none⟩ = some (.slice A2 ls2.length c2) := G2.cell 1
  have hE : Own (w8.alloc (.cells #[] 54)) w8.heap.size 54 3 Lk.enc (.slice (some ⟨w8.heap.size, 0, none⟩) 0 0) [] := Own.empty (Nat.le_refl _) (Blk.new w8 _ _)
  have gg1 : ∀ o, (w8.alloc o).cell? ⟨w.heap.size, 1, none⟩ = some (.slice A ls.length c) := fun o => ((net.out _ (K8.alloc o)).2.1).cell 1
  have rr0 : ∀ o, Rd (w8.alloc o) 3 Lk.enc A ls := fun o => (net.out _ (K8.alloc o)).2.2.2.1
  have Hrr := Lib.hid rr0; clear rr0
  go_upto_region 8 with (at_builtin; go_loud (refine wpList_appl ELk Lk.len Lk.one rfl _ _ rfl rfl rfl hE (Hrr.out _) (by simp; omega) (by simp) ?_; intro v9 w9 hown9 hg hat; rw [List.nil_append] at hown9; have hK9 : Kp w8 w9 := ((Kp.refl w8).alloc _).grown hg (fun q hq => (World.ownsRow.lt hE q hq).1); clear hg hat hE; obtain ⟨A9, c9, rfl, hr9⟩ := hown9.rd (by omega) Lk.len; clear hown9; have K9 := K8.trans hK9))
  clear gg1 Hrr hsm
  clear kw G G2 r0 r1 g0 g1 g2 g3
  obtain ⟨kw, G, G2, r0, r1⟩ := net.out w9 K9
  have g0 : w9.cell? ⟨w.heap.size, 0, none⟩ = some (.int .i64 R) := G.cell 0
  have g1 : w9.cell? ⟨w.heap.size, 1, none⟩ = some (.slice A ls.length c) := G.cell 1
  have g2 : w9.cell? ⟨w.heap.size + 1, 0, none⟩ = some (.int .i64 S) := G2.cell 0
  have g3 : w9.cell? ⟨w.heap.size + 1, 1, none⟩ = some (.slice A2 ls2.length c2) := G2.cell 1
  go_wp2_with fail
  refine (gset_no R l up A c ls _ r0 hn (by rw [Hse.out]; omega)).mono ?_
  rintro e w10 ⟨rfl, hK10⟩
  rw [Hse.out]
  have K10 := K9.trans hK10
  have hr10 := hr9.keep hK10
  have X10 := Blk.new w10 24 #[.int .i64 0, .slice none 0 0]
  clear kw G G2 r0 r1 g0 g1 g2 g3
  obtain ⟨kw, G, G2, r0, r1⟩ := net.out w10 K10
  have g0 : w10.cell? ⟨w.heap.size, 0, none⟩ = some (.int .i64 R) := G.cell 0
  have g1 : w10.cell? ⟨w.heap.size, 1, none⟩ = some (.slice A ls.length c) := G.cell 1
  have g2 : w10.cell? ⟨w.heap.size + 1, 0, none⟩ = some (.int .i64 S) := G2.cell 0
  have g3 : w10.cell? ⟨w.heap.size + 1, 1, none⟩ = some (.slice A2 ls2.length c2) := G2.cell 1
  have q0 : ∀ o, (w10.alloc o).cell? ⟨w.heap.size, 0, none⟩ = some (.int .i64 R) := fun o => ((net.out _ (K10.alloc o)).2.1).cell 0
  have q1 : ∀ o, (w10.alloc o).cell? ⟨w.heap.size, 1, none⟩ = some (.slice A ls.length c) := fun o => ((net.out _ (K10.alloc o)).2.1).cell 1
  go_wp2_with fail
  refine (rsame_any R R A A9 c c9 ls ls _ (net.out _ (K10.alloc _)).2.2.2.1 (hr10.keep ((Kp.refl _).alloc _)) (by omega)).mono ?_
  rintro e w11 ⟨rfl, hK11⟩
  rw [Hs2.out]
  have K11 := (K10.alloc (.cells #[.int .i64 0, .slice none 0 0] 24)).trans hK11
  have X11 := X10.keep hK11
  clear q0 q1 hr10 X10
  clear kw G G2 r0 r1 g0 g1 g2 g3
  obtain ⟨kw, G, G2, r0, r1⟩ := net.out w11 K11
  have g0 : w11.cell? ⟨w.heap.size, 0, none⟩ = some (.int .i64 R) := G.cell 0
  have g1 : w11.cell? ⟨w.heap.size, 1, none⟩ = some (.slice A ls.length c) := G.cell 1
  have g2 : w11.cell? ⟨w.heap.size + 1, 0, none⟩ = some (.int .i64 S) := G2.cell 0
  have g3 : w11.cell? ⟨w.heap.size + 1, 1, none⟩ = some (.slice A2 ls2.length c2) := G2.cell 1
  go_wp2_with fail
  refine (rright_any R A c ls _ r0 hn).mono ?_
  rintro e w12 ⟨rfl, hK12⟩
  rw [Hr.out]
  have K12 := K11.trans hK12
  have X12 := X11.keep hK12
  clear kw G G2 r0 r1 g0 g1 g2 g3
  obtain ⟨kw, G, G2, r0, r1⟩ := net.out w12 K12
  have g0 : w12.cell? ⟨w.heap.size, 0, none⟩ = some (.int .i64 R) := G.cell 0
  have g1 : w12.cell? ⟨w.heap.size, 1, none⟩ = some (.slice A ls.length c) := G.cell 1
  have g2 : w12.cell? ⟨w.heap.size + 1, 0, none⟩ = some (.int .i64 S) := G2.cell 0
  have g3 : w12.cell? ⟨w.heap.size + 1, 1, none⟩ = some (.slice A2 ls2.length c2) := G2.cell 1
  have x0 : w12.cell? ⟨w10.heap.size, 0, none⟩ = some (.int .i64 0) := X12.cell 0
  have x1 : w12.cell? ⟨w10.heap.size, 1, none⟩ = some (.slice none 0 0) := X12.cell 1
  rcases hl with hl | hl
  · go_wp2_with (go_at_call 15; refine (num_any _ _).mono ?_; rintro e w' ⟨rfl, rfl⟩)
    refine (works_any _).mono ?_
    rintro e w13 ⟨rfl, hK13⟩
    go_wp2_with fail
    go_ret
    exact ⟨rfl, kw.trans hK13⟩
  · go_wp2_with (go_at_call 15; refine (num_any _ _).mono ?_; rintro e w' ⟨rfl, rfl⟩)
    refine (works_any _).mono ?_
    rintro e w13 ⟨rfl, hK13⟩
    go_wp2_with fail
    go_ret
    exact ⟨rfl, kw.trans hK13⟩

set_option maxRecDepth 100000 in
set_option maxHeartbeats 4000000 in
theorem checks_c (R S : Int) (k : Nat) (up : Bool) (A A2 : Option Addr) (c c2 : Nat) (ls ls2 : List Lk) (w : World) (hR : Rd w 3 Lk.enc A ls) (hn : ls.length ≤ 30) (hR2 : Rd w 3 Lk.enc A2 ls2) (hn2 : ls2.length ≤ 30) (hr : right R ls = true) (hk : k < ls.length) :
    Calls Try.prog 7 #[.agg #[.int .i64 R, .slice A ls.length c], .agg #[.int .i64 S, .slice A2 ls2.length c2], .int .i64 k, .bool up] w fun e w' => e = .returned (.bool true) ∧ Kp w w' := by
  have H := Lib.hid (few_yes hn)
  have H2 := Lib.hid (few_yes hn2)
  have He := Lib.hid (show checkE R ls = 0 by simp [checkE, hr])
  have Hr := Lib.hid hr; clear hr
  have Hs1 := Lib.hid (sameG_symm R S ls ls2)
  have Hs2 := Lib.hid (sameG_self R ls)
  go_enter Try.func7, Try.ntmps7
  go_wp2_with fail
  refine (few_any R A ls.length c _).mono ?_
  rintro e w1 ⟨rfl, hK1⟩
  rw [H.out]
  have net : Hid (∀ W, Kp w1 W → Kp w W ∧ Blk W w.heap.size 24 #[.int .i64 R, .slice A ls.length c] ∧ Blk W (w.heap.size + 1) 24 #[.int .i64 S, .slice A2 ls2.length c2] ∧ Rd W 3 Lk.enc A ls ∧ Rd W 3 Lk.enc A2 ls2) := fun W h =>
    ⟨(((Kp.refl _).alloc _).alloc _).trans (hK1.trans h), ((Blk.new w _ _).alloc _).keep (hK1.trans h), (Blk.new1 w _ _ _).keep (hK1.trans h), hR.keep ((((Kp.refl _).alloc _).alloc _).trans (hK1.trans h)), hR2.keep ((((Kp.refl _).alloc _).alloc _).trans (hK1.trans h))⟩
  clear hK1 hR hR2
  obtain ⟨kw, G, G2, r0, r1⟩ := net.out w1 (Kp.refl _)
  have g0 : w1.cell? ⟨w.heap.size, 0, none⟩ = some (.int .i64 R) := G.cell 0
  have g1 : w1.cell? ⟨w.heap.size, 1, none⟩ = some (.slice A ls.length c) := G.cell 1
  have g2 : w1.cell? ⟨w.heap.size + 1, 0, none⟩ = some (.int .i64 S) := G2.cell 0
  have g3 : w1.cell? ⟨w.heap.size + 1, 1, none⟩ = some (.slice A2 ls2.length c2) := G2.cell 1
  go_wp2_with fail
  refine (few_any S A2 ls2.length c2 _).mono ?_
  rintro e w2 ⟨rfl, K2⟩
  rw [H2.out]
  clear kw G G2 r0 r1 g0 g1 g2 g3
  obtain ⟨kw, G, G2, r0, r1⟩ := net.out w2 K2
  have g0 : w2.cell? ⟨w.heap.size, 0, none⟩ = some (.int .i64 R) := G.cell 0
  have g1 : w2.cell? ⟨w.heap.size, 1, none⟩ = some (.slice A ls.length c) := G.cell 1
  have g2 : w2.cell? ⟨w.heap.size + 1, 0, none⟩ = some (.int .i64 S) := G2.cell 0
  have g3 : w2.cell? ⟨w.heap.size + 1, 1, none⟩ = some (.slice A2 ls2.length c2) := G2.cell 1
  go_wp2_with fail
  refine (gcheck_any R A c ls _ r0 hn).mono ?_
  rintro e w3 ⟨rfl, hK3⟩
  rw [He.out]
  have K3 := K2.trans hK3
  clear kw G G2 r0 r1 g0 g1 g2 g3
  obtain ⟨kw, G, G2, r0, r1⟩ := net.out w3 K3
  have g0 : w3.cell? ⟨w.heap.size, 0, none⟩ = some (.int .i64 R) := G.cell 0
  have g1 : w3.cell? ⟨w.heap.size, 1, none⟩ = some (.slice A ls.length c) := G.cell 1
  have g2 : w3.cell? ⟨w.heap.size + 1, 0, none⟩ = some (.int .i64 S) := G2.cell 0
  have g3 : w3.cell? ⟨w.heap.size + 1, 1, none⟩ = some (.slice A2 ls2.length c2) := G2.cell 1
  go_wp2_with (go_at_call 15; refine (num_any _ _).mono ?_; rintro e w' ⟨rfl, rfl⟩)
  refine (rsame_any R S A A2 c c2 ls ls2 _ r0 r1 (by omega)).mono ?_
  rintro e w4 ⟨rfl, hK4⟩
  have K4 := K3.trans hK4
  clear kw G G2 r0 r1 g0 g1 g2 g3
  obtain ⟨kw, G, G2, r0, r1⟩ := net.out w4 K4
  have g0 : w4.cell? ⟨w.heap.size, 0, none⟩ = some (.int .i64 R) := G.cell 0
  have g1 : w4.cell? ⟨w.heap.size, 1, none⟩ = some (.slice A ls.length c) := G.cell 1
  have g2 : w4.cell? ⟨w.heap.size + 1, 0, none⟩ = some (.int .i64 S) := G2.cell 0
  have g3 : w4.cell? ⟨w.heap.size + 1, 1, none⟩ = some (.slice A2 ls2.length c2) := G2.cell 1
  go_wp2_with fail
  refine (rright_any R A c ls _ r0 hn).mono ?_
  rintro e w5 ⟨rfl, hK5⟩
  rw [Hr.out]
  have K5 := K4.trans hK5
  clear kw G G2 r0 r1 g0 g1 g2 g3
  obtain ⟨kw, G, G2, r0, r1⟩ := net.out w5 K5
  have g0 : w5.cell? ⟨w.heap.size, 0, none⟩ = some (.int .i64 R) := G.cell 0
  have g1 : w5.cell? ⟨w.heap.size, 1, none⟩ = some (.slice A ls.length c) := G.cell 1
  have g2 : w5.cell? ⟨w.heap.size + 1, 0, none⟩ = some (.int .i64 S) := G2.cell 0
  have g3 : w5.cell? ⟨w.heap.size + 1, 1, none⟩ = some (.slice A2 ls2.length c2) := G2.cell 1
  go_wp2_with fail
  refine (gsame_any R S A A2 c c2 ls ls2 _ r0 r1 (by omega)).mono ?_
  rintro e w6 ⟨rfl, hK6⟩
  have K6 := K5.trans hK6
  clear kw G G2 r0 r1 g0 g1 g2 g3
  obtain ⟨kw, G, G2, r0, r1⟩ := net.out w6 K6
  have g0 : w6.cell? ⟨w.heap.size, 0, none⟩ = some (.int .i64 R) := G.cell 0
  have g1 : w6.cell? ⟨w.heap.size, 1, none⟩ = some (.slice A ls.length c) := G.cell 1
  have g2 : w6.cell? ⟨w.heap.size + 1, 0, none⟩ = some (.int .i64 S) := G2.cell 0
  have g3 : w6.cell? ⟨w.heap.size + 1, 1, none⟩ = some (.slice A2 ls2.length c2) := G2.cell 1
  have hsm : (sameG R S ls ls2 != sameG R S ls ls2) = false := by simp
  go_wp2_with fail
  refine (gsame_any S R A2 A c2 c ls2 ls _ r1 r0 (by omega)).mono ?_
  rintro e w7 ⟨rfl, hK7⟩
  rw [← Hs1.out]
  have K7 := K6.trans hK7
  clear kw G G2 r0 r1 g0 g1 g2 g3
  obtain ⟨kw, G, G2, r0, r1⟩ := net.out w7 K7
  have g0 : w7.cell? ⟨w.heap.size, 0, none⟩ = some (.int .i64 R) := G.cell 0
  have g1 : w7.cell? ⟨w.heap.size, 1, none⟩ = some (.slice A ls.length c) := G.cell 1
  have g2 : w7.cell? ⟨w.heap.size + 1, 0, none⟩ = some (.int .i64 S) := G2.cell 0
  have g3 : w7.cell? ⟨w.heap.size + 1, 1, none⟩ = some (.slice A2 ls2.length c2) := G2.cell 1
  go_wp2_with fail
  refine (gsame_any R R A A c c ls ls _ r0 r0 (by omega)).mono ?_
  rintro e w8 ⟨rfl, hK8⟩
  rw [Hs2.out]
  have K8 := K7.trans hK8
  clear kw G G2 r0 r1 g0 g1 g2 g3
  obtain ⟨kw, G, G2, r0, r1⟩ := net.out w8 K8
  have g0 : w8.cell? ⟨w.heap.size, 0, none⟩ = some (.int .i64 R) := G.cell 0
  have g1 : w8.cell? ⟨w.heap.size, 1, none⟩ = some (.slice A ls.length c) := G.cell 1
  have g2 : w8.cell? ⟨w.heap.size + 1, 0, none⟩ = some (.int .i64 S) := G2.cell 0
  have g3 : w8.cell? ⟨w.heap.size + 1, 1, none⟩ = some (.slice A2 ls2.length c2) := G2.cell 1
  have hE : Own (w8.alloc (.cells #[] 54)) w8.heap.size 54 3 Lk.enc (.slice (some ⟨w8.heap.size, 0, none⟩) 0 0) [] := Own.empty (Nat.le_refl _) (Blk.new w8 _ _)
  have gg1 : ∀ o, (w8.alloc o).cell? ⟨w.heap.size, 1, none⟩ = some (.slice A ls.length c) := fun o => ((net.out _ (K8.alloc o)).2.1).cell 1
  have rr0 : ∀ o, Rd (w8.alloc o) 3 Lk.enc A ls := fun o => (net.out _ (K8.alloc o)).2.2.2.1
  have Hrr := Lib.hid rr0; clear rr0
  go_upto_region 8 with (at_builtin; go_loud (refine wpList_appl ELk Lk.len Lk.one rfl _ _ rfl rfl rfl hE (Hrr.out _) (by simp; omega) (by simp) ?_; intro v9 w9 hown9 hg hat; rw [List.nil_append] at hown9; have hK9 : Kp w8 w9 := ((Kp.refl w8).alloc _).grown hg (fun q hq => (World.ownsRow.lt hE q hq).1); clear hg hat hE; obtain ⟨A9, c9, rfl, hr9⟩ := hown9.rd (by omega) Lk.len; clear hown9; have K9 := K8.trans hK9))
  clear gg1 Hrr hsm
  clear kw G G2 r0 r1 g0 g1 g2 g3
  obtain ⟨kw, G, G2, r0, r1⟩ := net.out w9 K9
  have g0 : w9.cell? ⟨w.heap.size, 0, none⟩ = some (.int .i64 R) := G.cell 0
  have g1 : w9.cell? ⟨w.heap.size, 1, none⟩ = some (.slice A ls.length c) := G.cell 1
  have g2 : w9.cell? ⟨w.heap.size + 1, 0, none⟩ = some (.int .i64 S) := G2.cell 0
  have g3 : w9.cell? ⟨w.heap.size + 1, 1, none⟩ = some (.slice A2 ls2.length c2) := G2.cell 1
  go_wp2_with fail
  refine (gset_ok R k up A c ls _ r0 hn Hr.out hk).mono ?_
  rintro e w10 ⟨g10, cap10, rfl, hx10, hK10⟩
  have K10 := K9.trans hK10
  have hr10 := hr9.keep hK10
  have X10 := Blk.new w10 24 #[.int .i64 R, .slice (some ⟨g10, 0, none⟩) ls.length cap10]
  clear kw G G2 r0 r1 g0 g1 g2 g3
  obtain ⟨kw, G, G2, r0, r1⟩ := net.out w10 K10
  have g0 : w10.cell? ⟨w.heap.size, 0, none⟩ = some (.int .i64 R) := G.cell 0
  have g1 : w10.cell? ⟨w.heap.size, 1, none⟩ = some (.slice A ls.length c) := G.cell 1
  have g2 : w10.cell? ⟨w.heap.size + 1, 0, none⟩ = some (.int .i64 S) := G2.cell 0
  have g3 : w10.cell? ⟨w.heap.size + 1, 1, none⟩ = some (.slice A2 ls2.length c2) := G2.cell 1
  have q0 : ∀ o, (w10.alloc o).cell? ⟨w.heap.size, 0, none⟩ = some (.int .i64 R) := fun o => ((net.out _ (K10.alloc o)).2.1).cell 0
  have q1 : ∀ o, (w10.alloc o).cell? ⟨w.heap.size, 1, none⟩ = some (.slice A ls.length c) := fun o => ((net.out _ (K10.alloc o)).2.1).cell 1
  go_wp2_with fail
  refine (rsame_any R R A A9 c c9 ls ls _ (net.out _ (K10.alloc _)).2.2.2.1 (hr10.keep ((Kp.refl _).alloc _)) (by omega)).mono ?_
  rintro e w11 ⟨rfl, hK11⟩
  rw [Hs2.out]
  have K11 := (K10.alloc (.cells #[.int .i64 R, .slice (some ⟨g10, 0, none⟩) ls.length cap10] 24)).trans hK11
  have X11 := X10.keep hK11
  clear q0 q1 hr10 X10
  clear kw G G2 r0 r1 g0 g1 g2 g3
  obtain ⟨kw, G, G2, r0, r1⟩ := net.out w11 K11
  have g0 : w11.cell? ⟨w.heap.size, 0, none⟩ = some (.int .i64 R) := G.cell 0
  have g1 : w11.cell? ⟨w.heap.size, 1, none⟩ = some (.slice A ls.length c) := G.cell 1
  have g2 : w11.cell? ⟨w.heap.size + 1, 0, none⟩ = some (.int .i64 S) := G2.cell 0
  have g3 : w11.cell? ⟨w.heap.size + 1, 1, none⟩ = some (.slice A2 ls2.length c2) := G2.cell 1
  go_wp2_with fail
  refine (rright_any R A c ls _ r0 hn).mono ?_
  rintro e w12 ⟨rfl, hK12⟩
  rw [Hr.out]
  have K12 := K11.trans hK12
  have X12 := X11.keep hK12
  clear kw G G2 r0 r1 g0 g1 g2 g3
  obtain ⟨kw, G, G2, r0, r1⟩ := net.out w12 K12
  have g0 : w12.cell? ⟨w.heap.size, 0, none⟩ = some (.int .i64 R) := G.cell 0
  have g1 : w12.cell? ⟨w.heap.size, 1, none⟩ = some (.slice A ls.length c) := G.cell 1
  have g2 : w12.cell? ⟨w.heap.size + 1, 0, none⟩ = some (.int .i64 S) := G2.cell 0
  have g3 : w12.cell? ⟨w.heap.size + 1, 1, none⟩ = some (.slice A2 ls2.length c2) := G2.cell 1
  have x0 : w12.cell? ⟨w10.heap.size, 0, none⟩ = some (.int .i64 R) := X12.cell 0
  have x1 : w12.cell? ⟨w10.heap.size, 1, none⟩ = some (.slice (some ⟨g10, 0, none⟩) ls.length cap10) := X12.cell 1
  have hx12 := hx10.keep (((Kp.refl _).alloc (.cells #[.int .i64 R, .slice (some ⟨g10, 0, none⟩) ls.length cap10] 24)).trans (hK11.trans hK12))
  go_wp2_with fail
  go_region_held3 (fun w' => w'.cell? ⟨w10.heap.size, 0, none⟩ = some (.int .i64 R) ∧ w'.cell? ⟨w10.heap.size, 1, none⟩ = some (.slice (some ⟨g10, 0, none⟩) ls.length cap10) ∧ w'.cell? ⟨w.heap.size, 0, none⟩ = some (.int .i64 R) ∧ w'.cell? ⟨w.heap.size, 1, none⟩ = some (.slice A ls.length c))
    (first | go_keep | exact ⟨Kz.cell x0, Kz.cell x1, Kz.cell g0, Kz.cell g1⟩ | exact ⟨Ky.cell x0, Ky.cell x1, Ky.cell g0, Ky.cell g1⟩ | exact ⟨Kx.cell x0, Kx.cell x1, Kx.cell g0, Kx.cell g1⟩)
    (first
      | (go_at_call 15; refine (num_any _ _).mono ?_; rintro e w' ⟨rfl, rfl⟩)
      | (go_at_call 29; refine (rset_any R k up A c ls _ (r0.keep (Kp.refl _).drew) hn hk).mono ?_; rintro e w14 ⟨g14, cap14, rfl, hg14, hr14, hK14⟩; have Kx : Kp w12 w14 := (Kp.refl w12).drew.trans hK14)
      | (go_at_call 31; refine (rsame_q R R _ _ cap10 cap14 _ _ (setUp ls k up) (setUp ls k up) _ (setUp_len ls k up).symm (setUp_len ls k up).symm (hx12.keep Kx) hr14 (by rw [setUp_len]; omega)).mono ?_; rintro e w15 ⟨rfl, hK15⟩; rw [sameG_self]; have Ky : Kp w12 w15 := Kx.trans hK15)
      | (go_at_call 9; refine (works_any _).mono ?_; rintro e w16 ⟨rfl, hK16⟩; have Kz : Kp w12 w16 := Ky.trans hK16))
  go_wp2_with fail
  go_ret
  exact ⟨rfl, kw.trans Kz⟩
end Go.Proofs.Ytgnhhhcelfaliaa
