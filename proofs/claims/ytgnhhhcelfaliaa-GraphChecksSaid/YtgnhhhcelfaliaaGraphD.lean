/- Layer 18's reference: what its functions return. No condition but the stated bounds. -/
import Derived.Test.YtgnhhhcelfaliaaGraphC
namespace Go.Proofs.Ytgnhhhcelfaliaa
open Go.RowKit

set_option maxHeartbeats 2000000 in
theorem rright_any (R : Int) (A : Option Addr) (c : Nat) (ls : List Lk) (w : World) (hR : Rd w 3 Lk.enc A ls) (hn : ls.length ≤ 30) :
    Calls Try.prog 32 #[.agg #[.int .i64 R, .slice A ls.length c]] w fun e w' => e = .returned (.bool (right R ls)) ∧ Kp w w' := by
  by_cases h1 : R < 1
  · have H := Lib.hid (show right R ls = false by simp only [right, decide_eq_false (show ¬ (1 ≤ R ∧ R ≤ 20) by omega)]; simp)
    go_enter Try.func32, Try.ntmps32
    go_wp2
    go_ret
    exact ⟨by rw [H.out]; rfl, (Kp.refl _).alloc _⟩
  by_cases h2 : 20 < R
  · have H := Lib.hid (show right R ls = false by simp only [right, decide_eq_false (show ¬ (1 ≤ R ∧ R ≤ 20) by omega)]; simp)
    have hd : decide (R < 1) = false := by simp; omega
    go_enter Try.func32, Try.ntmps32
    go_wp2
    go_ret
    exact ⟨by rw [H.out]; rfl, (Kp.refl _).alloc _⟩
  have hd : decide (R < 1) = false := by simp; omega
  have hd' : decide (20 < R) = false := by simp; omega
  by_cases h3 : 24 < ls.length
  · have H := Lib.hid (show right R ls = false by simp only [right, decide_eq_false (show ¬ (ls.length ≤ 24) by omega)]; simp)
    go_enter Try.func32, Try.ntmps32
    go_wp2
    go_ret
    exact ⟨by rw [H.out]; rfl, (Kp.refl _).alloc _⟩
  have H0 := Lib.hid (show right R ls = (linksOk R ls && facesOk R ls) by simp only [right, decide_eq_true (show 1 ≤ R ∧ R ≤ 20 by omega), decide_eq_true (show ls.length ≤ 24 by omega)]; simp)
  go_enter Try.func32, Try.ntmps32
  go_wp2_with fail
  go_loopw [3] (fun i wr => ∃ k : Nat, k ≤ ls.length ∧ i = .int .i64 k ∧ Hid (∀ j (hj : j < ls.length), j < k → ls[j].ok R = true) ∧ Kp (w.alloc (.cells #[.int .i64 R, .slice A ls.length c] 24)) wr) (fun i _ => ls.length - (intOf i).toNat)
  case atStart => exact ⟨0, Nat.zero_le _, rfl, fun _ _ h => absurd h (by omega), Kp.refl _⟩
  case round =>
    obtain ⟨k, hk, rfl, hall, hK⟩ := hrel
    have g0 : wr.cell? ⟨w.heap.size, 0, none⟩ = some (.int .i64 R) := hK.cell (by simp [go_sem])
    have g1 : wr.cell? ⟨w.heap.size, 1, none⟩ = some (.slice A ls.length c) := hK.cell (by simp [go_sem])
    have hKw : Kp w wr := ((Kp.refl _).alloc _).trans hK
    have hsz := hK.size
    simp at hsz
    by_cases hlt : k < ls.length
    · obtain ⟨b, off, rfl, c0, c1, c2⟩ := lk_at (hR.keep hKw) hlt
      have g0' : ∀ o, (wr.alloc o).cell? ⟨w.heap.size, 0, none⟩ = some (.int .i64 R) := fun o => (World.cell?_alloc_past _ _ _ (by omega)).trans g0
      by_cases hA0 : ls[k].A < 0
      · go_wp2_with fail
        go_ret
        exact ⟨by rw [H0.out, linksOk_no hlt (by simp [Lk.ok]; omega)]; rfl, hKw.alloc _⟩
      have hA0' : decide (ls[k].A < 0) = false := by simp; omega
      by_cases hB0 : ls[k].B < 0
      · go_wp2_with fail
        go_ret
        exact ⟨by rw [H0.out, linksOk_no hlt (by simp [Lk.ok]; omega)]; rfl, hKw.alloc _⟩
      have hB0' : decide (ls[k].B < 0) = false := by simp; omega
      by_cases hA1 : R ≤ ls[k].A
      · go_wp2_with fail
        go_ret
        exact ⟨by rw [H0.out, linksOk_no hlt (by simp [Lk.ok]; omega)]; rfl, hKw.alloc _⟩
      have hA1' : decide (R ≤ ls[k].A) = false := by simp; omega
      by_cases hB1 : R ≤ ls[k].B
      · go_wp2_with fail
        go_ret
        exact ⟨by rw [H0.out, linksOk_no hlt (by simp [Lk.ok]; omega)]; rfl, hKw.alloc _⟩
      have hB1' : decide (R ≤ ls[k].B) = false := by simp; omega
      by_cases hAB : (ls[k].A == ls[k].B) = true
      · go_wp2_with fail
        go_ret
        exact ⟨by rw [H0.out, linksOk_no hlt (by simp [Lk.ok]; intros; simpa using hAB)]; rfl, hKw.alloc _⟩
      · have hAB' : (ls[k].A == ls[k].B) = false := by simpa using hAB
        go_wp2_with fail
        go_roundw
        case rel =>
          refine ⟨k + 1, by omega, by go_num, fun j hj hjk => ?_, hK.alloc _⟩
          by_cases hj' : j < k
          · exact hall.out j hj hj'
          · obtain rfl : j = k := by omega
            simp [Lk.ok]
            simp at hAB
            omega
        case measure => simp [intOf]; omega
    · obtain rfl : k = ls.length := by omega
      have H1 := Lib.hid (show right R ls = facesOk R ls by rw [H0.out, linksOk_yes (fun j hj => hall.out j hj hj)]; rfl)
      go_wp2_with fail
      go_loopw [5] (fun i wz => ∃ k : Nat, k ≤ R.toNat ∧ i = .int .i64 k ∧ Hid (∀ j : Nat, j < k → (faces ls j).length ≤ 16) ∧ Kp (w.alloc (.cells #[.int .i64 R, .slice A ls.length c] 24)) wz) (fun i _ => R.toNat - (intOf i).toNat)
      case atStart => exact ⟨0, Nat.zero_le _, rfl, fun _ h => absurd h (by omega), hK⟩
      case round =>
        clear g0 g1 hKw hK
        obtain ⟨k, hk, rfl, hall2, hK⟩ := hrel
        have g0 : wr.cell? ⟨w.heap.size, 0, none⟩ = some (.int .i64 R) := hK.cell (by simp [go_sem])
        have g1 : wr.cell? ⟨w.heap.size, 1, none⟩ = some (.slice A ls.length c) := hK.cell (by simp [go_sem])
        have hKw : Kp w wr := ((Kp.refl _).alloc _).trans hK
        by_cases hlt2 : (k : Int) < R
        · go_wp2_with fail
          refine (rlinks_any R k A c ls _ (hR.keep hKw) (by omega)).mono ?_
          rintro e w1 ⟨v, rfl, hown, hK1⟩
          obtain ⟨A1, c1, rfl⟩ := hown.form
          by_cases h16 : 16 < (faces ls k).length
          · go_wp2_with fail
            go_ret
            exact ⟨by rw [H1.out, facesOk_no hlt2 h16]; rfl, hKw.trans hK1⟩
          · go_wp2_with fail
            go_roundw
            case rel =>
              refine ⟨k + 1, by omega, by go_num, fun j hj => ?_, hK.trans hK1⟩
              by_cases hj' : j < k
              · exact hall2.out j hj'
              · obtain rfl : j = k := by omega
                omega
            case measure => simp [intOf]; omega
        · go_wp2
          go_ret
          exact ⟨by rw [H1.out, facesOk_yes (fun j hj => hall2.out j (by omega))]; rfl, hKw⟩

def routerErr (R : Int) (ls : List Lk) (r : Int) : Int := if right R ls then (if 0 ≤ r ∧ r < R then 0 else 4) else 2

set_option maxHeartbeats 400000 in
theorem rrouter_any (R r : Int) (A : Option Addr) (c : Nat) (ls : List Lk) (w : World) (hR : Rd w 3 Lk.enc A ls) (hn : ls.length ≤ 30) :
    Calls Try.prog 17 #[.agg #[.int .i64 R, .slice A ls.length c], .int .i64 r] w fun e w' => e = .returned (.int .i64 (routerErr R ls r)) ∧ Kp w w' := by
  go_enter Try.func17, Try.ntmps17
  go_wp2_with fail
  refine (rright_any R A c ls _ (hR.keep ((Kp.refl _).alloc _)) hn).mono ?_
  rintro e w1 ⟨rfl, hK1⟩
  have g0 : w1.cell? ⟨w.heap.size, 0, none⟩ = some (.int .i64 R) := hK1.cell (by simp [go_sem])
  have hKw : Kp w w1 := ((Kp.refl _).alloc _).trans hK1
  cases hr : right R ls with
  | false =>
    have H := Lib.hid (show routerErr R ls r = 2 by simp [routerErr, hr]); clear hr
    go_wp2_with fail
    go_ret
    exact ⟨by rw [H.out]; rfl, hKw⟩
  | true =>
    by_cases h0 : r < 0
    · have H := Lib.hid (show routerErr R ls r = 4 by simp [routerErr, hr]; omega); clear hr
      go_wp2_with fail
      go_ret
      exact ⟨by rw [H.out]; rfl, hKw⟩
    have h0' : decide (r < 0) = false := by simp; omega
    by_cases h1 : R ≤ r
    · have H := Lib.hid (show routerErr R ls r = 4 by simp [routerErr, hr]; omega); clear hr
      go_wp2_with fail
      go_ret
      exact ⟨by rw [H.out]; rfl, hKw⟩
    · have H := Lib.hid (show routerErr R ls r = 0 by simp [routerErr, hr]; omega); clear hr
      go_wp2_with fail
      go_ret
      exact ⟨by rw [H.out]; rfl, hKw⟩

def onErr (R : Int) (ls : List Lk) (r l : Int) : Int :=
  if routerErr R ls r = 0 then (if 0 ≤ l ∧ l < ls.length ∧ ((ls[l.toNat]?).map (·.has r)).getD false = true then 0 else 4) else routerErr R ls r

theorem onErr_bad {R : Int} {ls : List Lk} {r l : Int} (h : ¬ routerErr R ls r = 0) : onErr R ls r l = routerErr R ls r := by simp [onErr, h]
theorem onErr_out {R : Int} {ls : List Lk} {r l : Int} (h : routerErr R ls r = 0) (h1 : l < 0 ∨ ls.length ≤ l) : onErr R ls r l = 4 := by
  simp only [onErr, h, if_true]
  rw [if_neg (by omega)]
theorem onErr_in {R : Int} {ls : List Lk} {r : Int} {k : Nat} (h : routerErr R ls r = 0) (hk : k < ls.length) : onErr R ls r k = if ls[k].has r then 0 else 4 := by
  simp only [onErr, h, if_true]
  rw [Int.toNat_natCast, List.getElem?_eq_getElem hk]
  cases hh : ls[k].has r <;> simp [hh]
  omega

set_option maxHeartbeats 1000000 in
theorem ron_any (R r l : Int) (A : Option Addr) (c : Nat) (ls : List Lk) (w : World) (hR : Rd w 3 Lk.enc A ls) (hn : ls.length ≤ 30) :
    Calls Try.prog 20 #[.agg #[.int .i64 R, .slice A ls.length c], .int .i64 r, .int .i64 l] w fun e w' => e = .returned (.int .i64 (onErr R ls r l)) ∧ Kp w w' := by
  go_enter Try.func20, Try.ntmps20
  go_wp2_with fail
  refine (rrouter_any R r A c ls _ (hR.keep ((Kp.refl _).alloc _)) hn).mono ?_
  rintro e w1 ⟨rfl, hK1⟩
  have g1 : w1.cell? ⟨w.heap.size, 1, none⟩ = some (.slice A ls.length c) := hK1.cell (by simp [go_sem])
  have hKw : Kp w w1 := ((Kp.refl _).alloc _).trans hK1
  by_cases hr : routerErr R ls r = 0
  · rw [hr]
    by_cases h0 : l < 0
    · have H := Lib.hid (onErr_out (l := l) hr (.inl h0)); clear hr
      go_wp2_with fail
      go_ret
      exact ⟨by rw [H.out]; rfl, hKw⟩
    have h0' : decide (l < 0) = false := by simp; omega
    obtain ⟨k, rfl⟩ := Int.eq_ofNat_of_zero_le (show 0 ≤ l by omega)
    by_cases h1 : ls.length ≤ k
    · have H := Lib.hid (onErr_out (l := (k : Int)) hr (.inr (by omega))); clear hr
      go_wp2_with fail
      go_ret
      exact ⟨by rw [H.out]; rfl, hKw⟩
    have hk : k < ls.length := by omega
    have h1' : decide (ls.length ≤ k) = false := by simp; omega
    obtain ⟨b, off, rfl, c0, c1, c2⟩ := lk_at (hR.keep hKw) hk
    have H := Lib.hid (onErr_in hr hk); clear hr
    go_wp2_with fail
    refine (has_any ls[k] r _).mono ?_
    rintro e w2 ⟨rfl, hK2⟩
    cases hh : ls[k].has r with
    | true =>
      have H2 := Lib.hid hh; clear hh
      go_wp2_with fail
      go_ret
      exact ⟨by rw [H.out, H2.out]; rfl, hKw.trans hK2⟩
    | false =>
      have H2 := Lib.hid hh; clear hh
      go_wp2_with fail
      go_ret
      exact ⟨by rw [H.out, H2.out]; rfl, hKw.trans hK2⟩
  · have hne : (routerErr R ls r == 0) = false := by simpa using hr
    have hne' : (routerErr R ls r != 0) = true := by simpa using hr
    have H := Lib.hid (onErr_bad (l := l) hr); clear hr
    go_wp2_with fail
    go_ret
    exact ⟨by rw [H.out]; rfl, hKw⟩
end Go.Proofs.Ytgnhhhcelfaliaa
