/- Layer 18: a router's link; a row's index. No condition but the stated bounds. -/
import Derived.Test.YtgnhhhcelfaliaaGraphF
namespace Go.Proofs.Ytgnhhhcelfaliaa
open Go.RowKit

theorem right_20 {R : Int} {ls : List Lk} (h : right R ls = true) : 1 ≤ R ∧ R ≤ 20 ∧ ls.length ≤ 24 := by
  simp only [right, Bool.and_eq_true, decide_eq_true_eq] at h
  omega
theorem right_link {R : Int} {ls : List Lk} (h : right R ls = true) {k : Nat} (hk : k < ls.length) : 0 ≤ ls[k].A ∧ ls[k].A < R ∧ 0 ≤ ls[k].B ∧ ls[k].B < R ∧ ls[k].A ≠ ls[k].B := by
  simp only [right, Bool.and_eq_true] at h
  have := List.all_eq_true.1 h.1.2 ls[k] (List.getElem_mem hk)
  simpa [Lk.ok] using this

set_option maxHeartbeats 1000000 in
theorem linkOf_ok (R r : Int) (k : Nat) (A : Option Addr) (c : Nat) (ls : List Lk) (w : World) (hR : Rd w 3 Lk.enc A ls) (hn : ls.length ≤ 30) (hr : right R ls = true) (h0 : 0 ≤ r) (h1 : r < R) (hk : k < ls.length) (hh : ls[k].has r = true) :
    Calls Try.prog 41 #[.agg #[.int .i64 R, .slice A ls.length c], .int .i64 r, .int .i64 k] w fun e w' => e = .returned (.agg #[.int .i64 ls[k].A, .int .i64 ls[k].B, .bool ls[k].Up]) ∧ Kp w w' := by
  have H := Lib.hid hr; clear hr
  have HH := Lib.hid hh; clear hh
  go_enter Try.func41, Try.ntmps41
  go_wp2_with fail
  refine (may_any R A c ls _ (hR.keep (((Kp.refl _).alloc _).alloc _)) hn).mono ?_
  rintro e w1 ⟨hy, _, hK1⟩
  obtain rfl := hy H.out
  clear hy
  have g0 : w1.cell? ⟨w.heap.size, 0, none⟩ = some (.int .i64 R) := hK1.cell (by simp [go_sem])
  have g1 : w1.cell? ⟨w.heap.size, 1, none⟩ = some (.slice A ls.length c) := hK1.cell (by simp [go_sem])
  have B : Blk w1 (w.heap.size + 1) 54 #[.int .i64 0, .int .i64 0, .bool false] := (by simpa using Blk.new (w.alloc _) 54 #[.int .i64 0, .int .i64 0, .bool false] : Blk _ (w.heap.size + 1) 54 #[.int .i64 0, .int .i64 0, .bool false]).keep hK1
  have hsz := B.lt
  have hKw : Kp w w1 := (((Kp.refl _).alloc _).alloc _).trans hK1
  obtain ⟨b, off, rfl, c0, c1, c2⟩ := lk_at (hR.keep hKw) hk
  go_wp2_with fail
  refine (at_ok r R _ h0 h1).mono ?_
  rintro e w2 ⟨rfl, rfl⟩
  go_wp2_with fail
  refine (at_ok k ls.length _ (by omega) (by omega)).mono ?_
  rintro e w2 ⟨rfl, rfl⟩
  have fin : ∀ w2, Kp (w1.alloc (.cells #[.int .i64 ls[k].A, .int .i64 ls[k].B, .bool ls[k].Up] 54)) w2 → (w2.cell? ⟨w1.heap.size, 0, none⟩ = some (.int .i64 ls[k].A) ∧ w2.cell? ⟨w1.heap.size, 1, none⟩ = some (.int .i64 ls[k].B) ∧ w2.cell? ⟨w1.heap.size, 2, none⟩ = some (.bool ls[k].Up)) ∧ Blk w2 (w.heap.size + 1) 54 #[.int .i64 0, .int .i64 0, .bool false] ∧ Kp w w2 :=
    fun w2 hk => ⟨⟨hk.cell (by simp [go_sem]), hk.cell (by simp [go_sem]), hk.cell (by simp [go_sem])⟩, (B.alloc _).keep hk, (hKw.alloc _).trans hk⟩
  have Fin := Lib.hid fin; clear fin
  have hcase : (ls[k].A == r) = true ∨ ((ls[k].A == r) = false ∧ (ls[k].B == r) = true) := by
    have := HH.out
    unfold Lk.has at this
    cases h : (ls[k].A == r) <;> simp_all
  rcases hcase with ha | ⟨ha, hb⟩
  all_goals
    go_wp2_with fail
    refine (need_ok _ _).mono ?_
    rintro e w2 ⟨rfl, hw2⟩
    obtain ⟨⟨d0, d1, d2⟩, B2, hKz⟩ := Fin.out w2 (Kp.of_eq hw2)
    clear Fin hw2 B
    have r0 : w2.cell? ⟨w.heap.size + 1, 0, none⟩ = some (.int .i64 0) := B2.cell 0
    have r1 : w2.cell? ⟨w.heap.size + 1, 1, none⟩ = some (.int .i64 0) := B2.cell 1
    have r2 : w2.cell? ⟨w.heap.size + 1, 2, none⟩ = some (.bool false) := B2.cell 2
    have z0 := B2.frozen 0
    have z1 := B2.frozen 1
    have z2 := B2.frozen 2
    go_wp2_with fail
    refine bodyPost_ret (v := .agg #[.int .i64 ls[k].A, .int .i64 ls[k].B, .bool ls[k].Up]) (by simp [results, Try.results41, go_sem, r0, r1, r2]) rfl ⟨rfl, ((hKz.setCell (by simp) _).setCell (by simp) _).setCell (by simp) _⟩

set_option maxHeartbeats 1000000 in
theorem linkOf_no (R r l : Int) (A : Option Addr) (c : Nat) (ls : List Lk) (w : World) (hR : Rd w 3 Lk.enc A ls) (hn : ls.length ≤ 30) (hon : ¬ onErr R ls r l = 0) :
    Calls Try.prog 41 #[.agg #[.int .i64 R, .slice A ls.length c], .int .i64 r, .int .i64 l] w fun e w' => e = fault (onErr R ls r l) ∧ Kp w w' := by
  have Hon := Lib.hid hon; clear hon
  go_enter Try.func41, Try.ntmps41
  go_wp2_with fail
  refine (may_any R A c ls _ (hR.keep (((Kp.refl _).alloc _).alloc _)) hn).mono ?_
  rintro e w1 ⟨hy, hno, hK1⟩
  have hKw : Kp w w1 := (((Kp.refl _).alloc _).alloc _).trans hK1
  cases hr : right R ls with
  | false =>
    obtain rfl := hno hr
    exact ⟨rfl, by rw [show onErr R ls r l = 2 by simp [onErr, routerErr, hr]]; rfl, hKw⟩
  | true =>
    obtain rfl := hy hr
    clear hy hno
    have H := Lib.hid hr; clear hr
    have g0 : w1.cell? ⟨w.heap.size, 0, none⟩ = some (.int .i64 R) := hK1.cell (by simp [go_sem])
    have g1 : w1.cell? ⟨w.heap.size, 1, none⟩ = some (.slice A ls.length c) := hK1.cell (by simp [go_sem])
    by_cases h0 : 0 ≤ r ∧ r < R
    · have Hr := Lib.hid (show routerErr R ls r = 0 by simp [routerErr, H.out, h0])
      go_wp2_with fail
      refine (at_ok r R _ h0.1 h0.2).mono ?_
      rintro e w2 ⟨rfl, rfl⟩
      by_cases hl : 0 ≤ l ∧ l < ls.length
      · obtain ⟨k, rfl⟩ := Int.eq_ofNat_of_zero_le hl.1
        have hk : k < ls.length := by omega
        obtain ⟨b, off, rfl, c0, c1, c2⟩ := lk_at (hR.keep hKw) hk
        have Hq := Lib.hid (onErr_in Hr.out hk)
        have Hf := Lib.hid (show ls[k].has r = false by
          have h1 := Hon.out
          rw [Hq.out] at h1
          cases h : ls[k].has r
          · rfl
          · simp [h] at h1)
        have ha : (ls[k].A == r) = false := by have := Hf.out; unfold Lk.has at this; cases h : (ls[k].A == r) <;> simp_all
        have hb : (ls[k].B == r) = false := by have := Hf.out; unfold Lk.has at this; cases h : (ls[k].B == r) <;> simp_all
        go_wp2_with fail
        refine (at_ok k ls.length _ (by omega) (by omega)).mono ?_
        rintro e w2 ⟨rfl, rfl⟩
        go_wp2_with fail
        refine (need_no _ _).mono ?_
        rintro e w2 ⟨rfl, hw2⟩
        refine ⟨rfl, by rw [Hq.out, Hf.out]; rfl, (hKw.alloc _).trans (Kp.of_eq hw2)⟩
      · go_wp2_with fail
        refine (at_no l ls.length _ (by omega)).mono ?_
        rintro e w2 ⟨rfl, rfl⟩
        exact ⟨rfl, by rw [onErr_out (l := l) Hr.out (by omega)]; rfl, hKw⟩
    · go_wp2_with fail
      refine (at_no r R _ (by omega)).mono ?_
      rintro e w2 ⟨rfl, rfl⟩
      exact ⟨rfl, by rw [show onErr R ls r l = 4 by simp [onErr, routerErr, H.out, h0]]; rfl, hKw⟩

/-- Where a number stands first in a row. -/
def idxI (xs : List Int) (x : Int) : Int := match xs.findIdx? (· == x) with | some i => i | none => -1

theorem idxI_at {xs : List Int} {x : Int} {k : Nat} (hk : k < xs.length) (h : xs[k] = x) (hno : ∀ j (hj : j < xs.length), j < k → ¬ xs[j] = x) : idxI xs x = k := by
  have : xs.findIdx? (· == x) = some k := by
    rw [List.findIdx?_eq_some_iff_getElem]
    exact ⟨hk, by simpa using h, fun j hj => by simpa using hno j (by omega) hj⟩
  simp [idxI, this]
theorem idxI_none {xs : List Int} {x : Int} (hno : ∀ j (hj : j < xs.length), ¬ xs[j] = x) : idxI xs x = -1 := by
  have : xs.findIdx? (· == x) = none := by
    rw [List.findIdx?_eq_none_iff]
    intro y hy
    obtain ⟨j, hj, rfl⟩ := List.getElem_of_mem hy
    simpa using hno j hj
  simp [idxI, this]

set_option maxHeartbeats 400000 in
theorem index_any (A : Option Addr) (c : Nat) (xs : List Int) (x : Int) (w : World) (hA : Rd w 1 intE A xs) (hn : xs.length ≤ 1000000) :
    Calls Try.prog 42 #[.slice A xs.length c, .int .i64 x] w fun e w' => e = .returned (.int .i64 (idxI xs x)) ∧ w = w' := by
  go_enter Try.func42, Try.ntmps42
  go_wp2
  go_loop [8] (fun i => ∃ k : Nat, k ≤ xs.length ∧ i = .int .i64 k ∧ Hid (∀ j (hj : j < xs.length), j < k → ¬ xs[j] = x)) (fun i => xs.length - (intOf i).toNat)
  case atStart => exact ⟨0, Nat.zero_le _, rfl, fun _ _ h => absurd h (by omega)⟩
  case round =>
    obtain ⟨k, hk, rfl, hall⟩ := hrel
    by_cases hlt : k < xs.length
    · obtain ⟨b, off, rfl, c0⟩ := int_at hA hlt
      by_cases he : xs[k] = x
      · have hne : (x == xs[k]) = true := by simp [he]
        have H := Lib.hid (idxI_at hlt he hall.out); clear he
        go_wp2_with fail
        go_ret
        exact ⟨by rw [H.out]; rfl, rfl⟩
      · have hne : (x == xs[k]) = false := by simp; exact fun h => he h.symm
        have H := Lib.hid he; clear he
        go_wp2_with fail
        go_round
        case rel =>
          refine ⟨k + 1, by omega, by go_num, fun j hj hjk => ?_⟩
          by_cases hj' : j < k
          · exact hall.out j hj hj'
          · obtain rfl : j = k := by omega
            exact H.out
        case measure => simp [intOf]; omega
    · obtain rfl : k = xs.length := by omega
      go_wp2
      go_ret
      exact ⟨by rw [idxI_none (fun j hj => hall.out j hj hj)]; rfl, rfl⟩
end Go.Proofs.Ytgnhhhcelfaliaa
