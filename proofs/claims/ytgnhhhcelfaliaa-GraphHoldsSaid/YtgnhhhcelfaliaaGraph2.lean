/- GraphDist: whatever graph and owners: the law returns true, and what was there stands. -/
import Derived.Test.YtgnhhhcelfaliaaGraph1
import Derived.Test.YtgnhhhcelfaliaaGraphP
import Derived.Test.YtgnhhhcelfaliaaGraphQ
namespace Go.Proofs.Ytgnhhhcelfaliaa
open Go.RowKit

set_option maxRecDepth 100000 in
set_option maxHeartbeats 1000000 in
theorem dist_many (R : Int) (A A2 : Option Addr) (c c2 : Nat) (ls : List Lk) (os : List Int) (w : World) (hn : ¬ ls.length ≤ 30) :
    Calls Try.prog 4 #[.agg #[.int .i64 R, .slice A ls.length c], .slice A2 os.length c2] w fun e w' => e = .returned (.bool true) ∧ Kp w w' := by
  have H := Lib.hid (few_no hn); clear hn
  go_enter Try.func4, Try.ntmps4
  go_wp2_with fail
  refine (few_any R A ls.length c _).mono ?_
  rintro e w1 ⟨rfl, hK1⟩
  rw [H.out]
  go_wp2_with fail
  refine (works_any _).mono ?_
  rintro e w2 ⟨rfl, hK2⟩
  go_wp2_with fail
  go_ret
  exact ⟨rfl, ((Kp.refl _).alloc _).trans (hK1.trans hK2)⟩

set_option maxRecDepth 100000 in
set_option maxHeartbeats 1000000 in
theorem dist_more (R : Int) (A A2 : Option Addr) (c c2 : Nat) (ls : List Lk) (os : List Int) (w : World) (hn : ls.length ≤ 30) (ho : ¬ os.length ≤ 12) :
    Calls Try.prog 4 #[.agg #[.int .i64 R, .slice A ls.length c], .slice A2 os.length c2] w fun e w' => e = .returned (.bool true) ∧ Kp w w' := by
  have H := Lib.hid (few_yes hn); clear hn
  have ho' : 12 < os.length := by omega
  clear ho
  go_enter Try.func4, Try.ntmps4
  go_wp2_with fail
  refine (few_any R A ls.length c _).mono ?_
  rintro e w1 ⟨rfl, hK1⟩
  rw [H.out]
  go_wp2_with fail
  refine (works_any _).mono ?_
  rintro e w2 ⟨rfl, hK2⟩
  go_wp2_with fail
  go_ret
  exact ⟨rfl, ((Kp.refl _).alloc _).trans (hK1.trans hK2)⟩

theorem ownersErr_zero {R : Int} {ls : List Lk} {os : List Int} (h : ownersErr R ls os = 0) : right R ls = true ∧ ∀ j (hj : j < os.length), 0 ≤ os[j] ∧ os[j] < R := by
  unfold ownersErr at h
  split at h
  · rename_i hr
    split at h
    · rename_i ha
      refine ⟨hr, fun j hj => ?_⟩
      have := List.all_eq_true.1 ha _ (List.getElem_mem hj)
      simpa [inR] using this
    · cases h
  · cases h

set_option maxRecDepth 100000 in
set_option maxHeartbeats 4000000 in
theorem dist_few (R : Int) (A A2 : Option Addr) (c c2 : Nat) (ls : List Lk) (os : List Int) (w : World) (hR : Rd w 3 Lk.enc A ls) (hn : ls.length ≤ 30) (hO : Rd w 1 intE A2 os) (ho : os.length ≤ 12) :
    Calls Try.prog 4 #[.agg #[.int .i64 R, .slice A ls.length c], .slice A2 os.length c2] w fun e w' => e = .returned (.bool true) ∧ Kp w w' := by
  have H := Lib.hid (few_yes hn)
  go_enter Try.func4, Try.ntmps4
  go_wp2_with fail
  refine (few_any R A ls.length c _).mono ?_
  rintro e w1 ⟨rfl, hK1⟩
  rw [H.out]
  have k1 : Kp w w1 := ((Kp.refl _).alloc _).trans hK1
  have G1 : Blk w1 w.heap.size 24 #[.int .i64 R, .slice A ls.length c] := (Blk.new w _ _).keep hK1
  clear hK1
  have g0 : w1.cell? ⟨w.heap.size, 0, none⟩ = some (.int .i64 R) := G1.cell 0
  have g1 : w1.cell? ⟨w.heap.size, 1, none⟩ = some (.slice A ls.length c) := G1.cell 1
  go_wp2_with fail
  refine (gdist_any R A A2 c c2 ls os _ (hR.keep k1) hn (hO.keep k1) (by omega)).mono ?_
  rintro e w2 ⟨v2, rfl, hown2, hK2⟩
  have k2 := k1.trans hK2
  have G2 := G1.keep hK2
  clear g0 g1 G1 k1
  have g0 : w2.cell? ⟨w.heap.size, 0, none⟩ = some (.int .i64 R) := G2.cell 0
  have g1 : w2.cell? ⟨w.heap.size, 1, none⟩ = some (.slice A ls.length c) := G2.cell 1
  obtain ⟨A3, c3, rfl, hr2⟩ := hown2.rd (by omega) intE_len
  clear hown2
  have step : ∀ W, Kp w2 W → Kp w W ∧ Blk W w.heap.size 24 #[.int .i64 R, .slice A ls.length c] := fun W h => ⟨k2.trans h, G2.keep h⟩
  have Hst := Lib.hid step; clear step
  by_cases he : ownersErr R ls os = 0
  · rw [if_pos he] at hr2 ⊢
    obtain ⟨hr, hos⟩ := ownersErr_zero he
    have h20 := right_20 hr
    obtain ⟨n, rfl⟩ := Int.eq_ofNat_of_zero_le (show 0 ≤ R by omega)
    have Hr := Lib.hid hr; clear hr
    have Hos := Lib.hid hos; clear hos
    have hdl := dist_len n ls os
    have hd30 : (dist n ls os).length ≤ 30 := by rw [hdl]; omega
    have Hdl := Lib.hid hdl; clear hdl
    rw [he]
    have He := Lib.hid he; clear he
    go_wp2_with fail
    refine (rowners_any n A A2 c c2 ls os _ (hR.keep k2) hn (hO.keep k2) (by omega)).mono ?_
    rintro e w3 ⟨rfl, hK3⟩
    rw [He.out]
    obtain ⟨k3, G3⟩ := Hst.out w3 hK3
    have hr3 := hr2.keep hK3
    clear g0 g1 hr2 G2 k2
    have g0 : w3.cell? ⟨w.heap.size, 0, none⟩ = some (.int .i64 n) := G3.cell 0
    have g1 : w3.cell? ⟨w.heap.size, 1, none⟩ = some (.slice A ls.length c) := G3.cell 1
    go_wp2_with fail
    refine (rdist_any n A A2 c c2 ls os _ (hR.keep k3) hn (hO.keep k3) (by omega) (by omega) Hr.out Hos.out).mono ?_
    rintro e w4 ⟨g, rfl, hrow, hg, hK4⟩
    have k4 := k3.trans hK4
    have hr4 := hr3.keep hK4
    have hown := hrow.own (base := 0) (Nat.zero_le _)
    have hrd4 := Rd.of_own (by omega) intE_len hown
    have Hn := Lib.hid (show (dist n ls os).length = n by rw [Hdl.out]; simp)
    go_wp2_with fail
    have hfit := rints_any A3 (some ⟨g, 0, none⟩) c3 n (dist n ls os) (dist n ls os) w4 hr4 hrd4 (by omega)
    rw [Hn.out] at hfit ⊢
    refine hfit.mono ?_
    clear hfit
    rintro e w5 ⟨rfl, hK5⟩
    rw [show decide (dist n ls os = dist n ls os) = true from by simp]
    go_wp2_with (go_at_call 15; refine (num_any _ _).mono ?_; rintro e w' ⟨rfl, rfl⟩)
    refine (works_any _).mono ?_
    rintro e w6 ⟨rfl, hK6⟩
    go_wp2_with fail
    go_ret
    exact ⟨rfl, k4.trans (hK5.trans hK6)⟩
  · rw [if_neg he] at hr2 ⊢
    have e1 : (ownersErr R ls os == 0) = false := by simpa using he
    have e2 : (ownersErr R ls os != 0) = true := by simpa using he
    clear he
    go_wp2_with fail
    refine (rowners_any R A A2 c c2 ls os _ (hR.keep k2) hn (hO.keep k2) (by omega)).mono ?_
    rintro e w3 ⟨rfl, hK3⟩
    go_wp2_with (go_at_call 15; refine (num_any _ _).mono ?_; rintro e w' ⟨rfl, rfl⟩)
    refine (works_any _).mono ?_
    rintro e w6 ⟨rfl, hK6⟩
    go_wp2_with fail
    go_ret
    exact ⟨rfl, k2.trans (hK3.trans hK6)⟩

theorem graphDist_any (R : Int) (A A2 : Option Addr) (c c2 : Nat) (ls : List Lk) (os : List Int) (w : World) (hR : Rd w 3 Lk.enc A ls) (hO : Rd w 1 intE A2 os) :
    Calls Try.prog 4 #[.agg #[.int .i64 R, .slice A ls.length c], .slice A2 os.length c2] w fun e w' => e = .returned (.bool true) ∧ Kp w w' := by
  by_cases hn : ls.length ≤ 30
  · by_cases ho : os.length ≤ 12
    · exact dist_few R A A2 c c2 ls os w hR hn hO ho
    · exact dist_more R A A2 c c2 ls os w hn ho
  · exact dist_many R A A2 c c2 ls os w hn
end Go.Proofs.Ytgnhhhcelfaliaa
