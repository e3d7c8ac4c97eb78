/- Layer 18: the graph's check as a whole. No condition but the stated bounds. -/
import Derived.Test.YtgnhhhcelfaliaaGraphB
namespace Go.Proofs.Ytgnhhhcelfaliaa
open Go.RowKit

set_option maxHeartbeats 400000 in
theorem facesMay_any (R : Int) (A : Option Addr) (c : Nat) (ls : List Lk) (w : World) (hR : Rd w 3 Lk.enc A ls) (hn : ls.length ≤ 30) (h20 : R ≤ 20) :
    Calls Try.prog 59 #[.agg #[.int .i64 R, .slice A ls.length c]] w fun e w' => e = .returned (.bool (facesOk R ls)) ∧ Kp w w' := by
  go_enter Try.func59, Try.ntmps59
  go_wp2
  go_loopw [7] (fun i wr => ∃ k : Nat, k ≤ R.toNat ∧ i = .int .i64 k ∧ Hid (∀ j : Nat, j < k → (faces ls j).length ≤ 16) ∧ Kp (w.alloc (.cells #[.int .i64 R, .slice A ls.length c] 73)) wr) (fun i _ => R.toNat - (intOf i).toNat)
  case atStart => exact ⟨0, Nat.zero_le _, rfl, fun _ h => absurd h (by omega), Kp.refl _⟩
  case round =>
    obtain ⟨k, hk, rfl, hall, hK⟩ := hrel
    have g0 : wr.cell? ⟨w.heap.size, 0, none⟩ = some (.int .i64 R) := hK.cell (by simp [go_sem])
    have g1 : wr.cell? ⟨w.heap.size, 1, none⟩ = some (.slice A ls.length c) := hK.cell (by simp [go_sem])
    have hKw : Kp w wr := ((Kp.refl _).alloc _).trans hK
    by_cases hlt : (k : Int) < R
    · go_wp2_with fail
      refine (faces_any R k A c ls _ (hR.keep hKw) (by omega)).mono ?_
      rintro e w1 ⟨v, rfl, hown, hK1⟩
      obtain ⟨A1, c1, rfl⟩ := hown.form
      by_cases h16 : 16 < (faces ls k).length
      · go_wp2_with fail
        go_ret
        exact ⟨by rw [facesOk_no hlt h16]; rfl, hKw.trans hK1⟩
      · go_wp2_with fail
        go_roundw
        case rel =>
          refine ⟨k + 1, by omega, by go_num, fun j hj => ?_, hK.trans hK1⟩
          by_cases hj' : j < k
          · exact hall.out j hj'
          · obtain rfl : j = k := by omega
            omega
        case measure => simp [intOf]; omega
    · go_wp2
      go_ret
      exact ⟨by rw [facesOk_yes (fun j hj => hall.out j (by omega))]; rfl, hKw⟩

def MayPost (R : Int) (ls : List Lk) (w : World) (e : Ending) (w' : World) : Prop :=
  (right R ls = true → e = .returned (.tuple #[])) ∧ (right R ls = false → e = fault 2) ∧ Kp w w'

theorem mayPost_no {R : Int} {ls : List Lk} {w w' : World} (h : right R ls = false) (hk : Kp w w') : MayPost R ls w (fault 2) w' :=
  ⟨fun h' => absurd (h.symm.trans h') (by simp), fun _ => rfl, hk⟩

set_option maxHeartbeats 1000000 in
theorem may_any (R : Int) (A : Option Addr) (c : Nat) (ls : List Lk) (w : World) (hR : Rd w 3 Lk.enc A ls) (hn : ls.length ≤ 30) :
    Calls Try.prog 37 #[.agg #[.int .i64 R, .slice A ls.length c]] w (MayPost R ls w) := by
  have hmf : ∀ (fn : Fn) (first cap : Array Value) (w : World), (Instr.makeFunc fn first cap).run Try.prog w = .ok (.func fn first cap) w := fun _ _ _ _ => rfl
  have i0 : ∀ (f0 f1 f2 f3 : Value) (w : World), (Instr.index 89 (.agg #[f0, f1, f2, f3]) (.int .i64 0)).run Try.prog w = .ok f0 w := fun _ _ _ _ _ => by kernel_rfl
  have i1 : ∀ (f0 f1 f2 f3 : Value) (w : World), (Instr.index 89 (.agg #[f0, f1, f2, f3]) (.int .i64 1)).run Try.prog w = .ok f1 w := fun _ _ _ _ _ => by kernel_rfl
  have i2 : ∀ (f0 f1 f2 f3 : Value) (w : World), (Instr.index 89 (.agg #[f0, f1, f2, f3]) (.int .i64 2)).run Try.prog w = .ok f2 w := fun _ _ _ _ _ => by kernel_rfl
  have i3 : ∀ (f0 f1 f2 f3 : Value) (w : World), (Instr.index 89 (.agg #[f0, f1, f2, f3]) (.int .i64 3)).run Try.prog w = .ok f3 w := fun _ _ _ _ _ => by kernel_rfl
  go_enter Try.func37, Try.ntmps37
  go_wp2_with fail
  refine wp_loop_rounds 5 ?_
  rw [rounds_succ]
  go_wp2_with fail
  refine (may1_any R _ _ (by simp [go_sem])).mono ?_
  rintro e w1 ⟨rfl, rfl⟩
  by_cases h1 : decide (1 ≤ R ∧ R ≤ 20) = true
  · rw [h1]
    have h20 : R ≤ 20 := by simp at h1; omega
    have H1 := Lib.hid h1; clear h1
    go_wp2_with fail
    refine (need_ok _ _).mono ?_
    rintro e w1 ⟨rfl, rfl⟩
    go_wp2_with fail
    rw [rounds_succ]
    go_wp2_with fail
    refine (may2_any A ls.length c _ _ (by simp [go_sem])).mono ?_
    rintro e w1 ⟨rfl, rfl⟩
    by_cases h2 : decide (ls.length ≤ 24) = true
    · rw [h2]
      have H2 := Lib.hid h2; clear h2
      go_wp2_with fail
      refine (need_ok _ _).mono ?_
      rintro e w1 ⟨rfl, rfl⟩
      go_wp2_with fail
      rw [rounds_succ]
      go_wp2_with fail
      refine (linksMay_any R A c ls _ (hR.keep (((Kp.refl _).alloc _).alloc _)) hn).mono ?_
      rintro e w1 ⟨rfl, hK1⟩
      have hKa : Kp w w1 := (((Kp.refl _).alloc _).alloc _).trans hK1
      by_cases h3 : linksOk R ls = true
      · rw [h3]
        have H3 := Lib.hid h3; clear h3
        go_wp2_with fail
        refine (need_ok _ _).mono ?_
        rintro e w2 ⟨rfl, rfl⟩
        go_wp2_with fail
        rw [rounds_succ]
        go_wp2_with fail
        refine (facesMay_any R A c ls _ (hR.keep hKa) hn h20).mono ?_
        rintro e w2 ⟨rfl, hK2⟩
        have hKb : Kp w w2 := hKa.trans hK2
        by_cases h4 : facesOk R ls = true
        · rw [h4]
          have H4 := Lib.hid h4; clear h4
          go_wp2_with fail
          refine (need_ok _ _).mono ?_
          rintro e w3 ⟨rfl, rfl⟩
          go_wp2_with fail
          rw [rounds_succ]
          go_wp2_with fail
          go_end0
          exact ⟨fun _ => rfl, fun h => by simp [right, H1.out, H2.out, H3.out, H4.out] at h, hKb⟩
        · have h4' : facesOk R ls = false := by simpa using h4
          rw [h4']
          have H4 := Lib.hid (show right R ls = false by simp [right, h4']); clear h4 h4'
          go_wp2_with fail
          refine (need_no _ _).mono ?_
          rintro e w3 ⟨rfl, rfl⟩
          exact ⟨rfl, mayPost_no H4.out hKb⟩
      · have h3' : linksOk R ls = false := by simpa using h3
        rw [h3']
        have H4 := Lib.hid (show right R ls = false by simp [right, h3']); clear h3 h3'
        go_wp2_with fail
        refine (need_no _ _).mono ?_
        rintro e w3 ⟨rfl, rfl⟩
        exact ⟨rfl, mayPost_no H4.out hKa⟩
    · have h2' : decide (ls.length ≤ 24) = false := by simpa using h2
      rw [h2']
      have H4 := Lib.hid (show right R ls = false by simp only [right, h2']; simp); clear h2 h2'
      go_wp2_with fail
      refine (need_no _ _).mono ?_
      rintro e w3 ⟨rfl, rfl⟩
      exact ⟨rfl, mayPost_no H4.out (((Kp.refl _).alloc _).alloc _)⟩
  · have h1' : decide (1 ≤ R ∧ R ≤ 20) = false := by simpa using h1
    rw [h1']
    have H4 := Lib.hid (show right R ls = false by simp only [right, h1']; simp); clear h1 h1'
    go_wp2_with fail
    refine (need_no _ _).mono ?_
    rintro e w3 ⟨rfl, rfl⟩
    exact ⟨rfl, mayPost_no H4.out (((Kp.refl _).alloc _).alloc _)⟩
end Go.Proofs.Ytgnhhhcelfaliaa
