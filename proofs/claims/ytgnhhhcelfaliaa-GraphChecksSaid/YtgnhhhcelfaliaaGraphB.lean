/- Layer 18: which graphs may be, in the program and in the reference. No condition but the stated bounds. -/
import Derived.Test.YtgnhhhcelfaliaaGraphA
namespace Go.Proofs.Ytgnhhhcelfaliaa
open Go.RowKit

def Lk.ok (R : Int) (l : Lk) : Bool := decide (0 ≤ l.A ∧ l.A < R ∧ 0 ≤ l.B ∧ l.B < R ∧ l.A ≠ l.B)
def linksOk (R : Int) (ls : List Lk) : Bool := ls.all (Lk.ok R)
def facesOk (R : Int) (ls : List Lk) : Bool := (List.range R.toNat).all (fun r => decide ((faces ls (r : Int)).length ≤ 16))
def right (R : Int) (ls : List Lk) : Bool := decide (1 ≤ R ∧ R ≤ 20) && decide (ls.length ≤ 24) && linksOk R ls && facesOk R ls

theorem linksOk_no {R : Int} {ls : List Lk} {k : Nat} (hk : k < ls.length) (h : ls[k].ok R = false) : linksOk R ls = false := by
  unfold linksOk
  rw [List.all_eq_false]
  exact ⟨ls[k], List.getElem_mem hk, by simp [h]⟩
theorem linksOk_yes {R : Int} {ls : List Lk} (h : ∀ j (hj : j < ls.length), ls[j].ok R = true) : linksOk R ls = true := by
  unfold linksOk
  rw [List.all_eq_true]
  intro x hx
  obtain ⟨j, hj, rfl⟩ := List.getElem_of_mem hx
  exact h j hj
theorem facesOk_no {R : Int} {ls : List Lk} {k : Nat} (hk : (k : Int) < R) (h : 16 < (faces ls k).length) : facesOk R ls = false := by
  unfold facesOk
  rw [List.all_eq_false]
  exact ⟨k, by simp; omega, by simp; omega⟩
theorem facesOk_yes {R : Int} {ls : List Lk} (h : ∀ j : Nat, (j : Int) < R → (faces ls j).length ≤ 16) : facesOk R ls = true := by
  unfold facesOk
  rw [List.all_eq_true]
  intro x hx
  simp at hx
  simpa using h x (by omega)

set_option maxHeartbeats 400000 in
theorem need_ok (e : Int) (w : World) :
    Calls Try.prog 45 #[.bool true, .int .i64 e] w fun e w' => e = .returned (.tuple #[]) ∧ w = w' := by
  go_enter Try.func45, Try.ntmps45
  go_wp2
  go_end0
  exact ⟨rfl, rfl⟩

/-- What a call of this layer gives up with. -/
def fault (e : Int) : Ending := .panicked [{ v := .iface 70 (.agg #[.int .i64 e]), recovered := false }]

set_option maxHeartbeats 400000 in
theorem need_no (e : Int) (w : World) :
    Calls Try.prog 45 #[.bool false, .int .i64 e] w fun en w' => en = fault e ∧ w = w' := by
  go_enter Try.func45, Try.ntmps45
  go_wp2
  exact ⟨rfl, rfl, rfl⟩

set_option maxHeartbeats 400000 in
theorem at_ok (i n : Int) (w : World) (h0 : 0 ≤ i) (h1 : i < n) :
    Calls Try.prog 38 #[.int .i64 i, .int .i64 n] w fun e w' => e = .returned (.tuple #[]) ∧ w = w' := by
  go_enter Try.func38, Try.ntmps38
  go_wp2_with fail
  refine (need_ok _ _).mono ?_
  rintro e w1 ⟨rfl, rfl⟩
  go_wp2
  go_end0
  exact ⟨rfl, rfl⟩

set_option maxHeartbeats 400000 in
theorem at_no (i n : Int) (w : World) (h : i < 0 ∨ n ≤ i) :
    Calls Try.prog 38 #[.int .i64 i, .int .i64 n] w fun en w' => en = fault 4 ∧ w = w' := by
  by_cases h0 : i < 0
  · have hd : decide (0 ≤ i) = false := by simp; omega
    go_enter Try.func38, Try.ntmps38
    go_wp2_with fail
    refine (need_no _ _).mono ?_
    rintro e w1 ⟨rfl, rfl⟩
    unfold fault
    go_wp2
    exact ⟨rfl, rfl, rfl⟩
  · have h0' : 0 ≤ i := by omega
    have h1 : n ≤ i := by omega
    have hd : decide (i < n) = false := by simp; omega
    go_enter Try.func38, Try.ntmps38
    go_wp2_with fail
    refine (need_no _ _).mono ?_
    rintro e w1 ⟨rfl, rfl⟩
    unfold fault
    go_wp2
    exact ⟨rfl, rfl, rfl⟩

set_option maxHeartbeats 400000 in
theorem ends_any (l : Lk) (w : World) :
    Calls Try.prog 62 #[.agg #[.int .i64 l.A, .int .i64 l.B, .bool l.Up]] w fun e w' => e = .returned (.agg #[.int .i64 l.A, .int .i64 l.B]) ∧ Kp w w' := by
  go_enter Try.func62, Try.ntmps62
  go_wp2
  go_returns
  exact ⟨rfl, by unfold Kp; go_grown⟩

set_option maxHeartbeats 400000 in
theorem may1_any (R : Int) (b : Nat) (w : World) (h0 : w.cell? ⟨b, 0, none⟩ = some (.int .i64 R)) :
    Calls Try.prog 56 #[.pointer (some ⟨b, 0, none⟩)] w fun e w' => e = .returned (.bool (decide (1 ≤ R ∧ R ≤ 20))) ∧ w = w' := by
  by_cases h1 : 1 ≤ R
  · go_enter Try.func56, Try.ntmps56
    go_wp2
    go_ret
    exact ⟨by simp [h1], rfl⟩
  · have hd : decide (1 ≤ R) = false := by simp; omega
    go_enter Try.func56, Try.ntmps56
    go_wp2
    go_ret
    exact ⟨rfl, rfl⟩

set_option maxHeartbeats 400000 in
theorem may2_any (A : Option Addr) (n c : Nat) (b : Nat) (w : World) (h0 : w.cell? ⟨b, 1, none⟩ = some (.slice A n c)) :
    Calls Try.prog 57 #[.pointer (some ⟨b, 0, none⟩)] w fun e w' => e = .returned (.bool (decide (n ≤ 24))) ∧ w = w' := by
  go_enter Try.func57, Try.ntmps57
  go_wp2
  go_ret
  exact ⟨by simp; omega, rfl⟩

set_option maxHeartbeats 1000000 in
theorem linksMay_any (R : Int) (A : Option Addr) (c : Nat) (ls : List Lk) (w : World) (hR : Rd w 3 Lk.enc A ls) (hn : ls.length ≤ 30) :
    Calls Try.prog 58 #[.agg #[.int .i64 R, .slice A ls.length c]] w fun e w' => e = .returned (.bool (linksOk R ls)) ∧ Kp w w' := by
  go_enter Try.func58, Try.ntmps58
  go_wp2
  go_loopw [11] (fun i wr => ∃ k : Nat, k ≤ ls.length ∧ i = .int .i64 k ∧ Hid (∀ j (hj : j < ls.length), j < k → ls[j].ok R = true) ∧ Kp (w.alloc (.cells #[.int .i64 R, .slice A ls.length c] 73)) wr) (fun i _ => ls.length - (intOf i).toNat)
  case atStart => exact ⟨0, Nat.zero_le _, rfl, fun _ _ h => absurd h (by omega), Kp.refl _⟩
  case round =>
    obtain ⟨k, hk, rfl, hall, hK⟩ := hrel
    have g0 : wr.cell? ⟨w.heap.size, 0, none⟩ = some (.int .i64 R) := hK.cell (by simp [go_sem])
    have hKw : Kp w wr := ((Kp.refl _).alloc _).trans hK
    have hsz := hK.size
    simp at hsz
    by_cases hlt : k < ls.length
    · obtain ⟨b, off, rfl, c0, c1, c2⟩ := lk_at (hR.keep hKw) hlt
      have i0 : ∀ w, (Instr.index 68 (.agg #[.int .i64 ls[k].A, .int .i64 ls[k].B]) (.int .i64 0)).run Try.prog w = .ok (.int .i64 ls[k].A) w := fun _ => by kernel_rfl
      have i1 : ∀ w, (Instr.index 68 (.agg #[.int .i64 ls[k].A, .int .i64 ls[k].B]) (.int .i64 1)).run Try.prog w = .ok (.int .i64 ls[k].B) w := fun _ => by kernel_rfl
      go_wp2_with fail
      refine (ends_any ls[k] _).mono ?_
      rintro e w1 ⟨rfl, hK1⟩
      have g1 : w1.cell? ⟨w.heap.size, 0, none⟩ = some (.int .i64 R) := hK1.cell ((World.cell?_alloc_past _ _ _ (by omega)).trans g0)
      have d0 : w1.cell? ⟨wr.heap.size, 0, none⟩ = some (.int .i64 ls[k].A) := hK1.cell (by simp [go_sem])
      have d1 : w1.cell? ⟨wr.heap.size, 1, none⟩ = some (.int .i64 ls[k].B) := hK1.cell (by simp [go_sem])
      clear c0 c1 c2 g0
      have hKe := (hKw.alloc _).trans hK1
      have hKe2 := (hK.alloc _).trans hK1
      by_cases hA0 : ls[k].A < 0
      · go_wp2_with fail
        go_rounds 3
        go_ret
        exact ⟨by rw [linksOk_no hlt (by simp [Lk.ok]; omega)]; rfl, hKe⟩
      by_cases hA1 : R ≤ ls[k].A
      · go_wp2_with fail
        go_rounds 3
        go_ret
        exact ⟨by rw [linksOk_no hlt (by simp [Lk.ok]; omega)]; rfl, hKe⟩
      by_cases hB0 : ls[k].B < 0
      · go_wp2_with fail
        go_rounds 3
        go_ret
        exact ⟨by rw [linksOk_no hlt (by simp [Lk.ok]; omega)]; rfl, hKe⟩
      by_cases hB1 : R ≤ ls[k].B
      · go_wp2_with fail
        go_rounds 3
        go_ret
        exact ⟨by rw [linksOk_no hlt (by simp [Lk.ok]; omega)]; rfl, hKe⟩
      by_cases hAB : (ls[k].A == ls[k].B) = true
      · go_wp2_with fail
        go_rounds 3
        go_ret
        exact ⟨by rw [linksOk_no hlt (by simp [Lk.ok]; intros; simpa using hAB)]; rfl, hKe⟩
      · have hAB' : (ls[k].A == ls[k].B) = false := by simpa using hAB
        go_wp2_with fail
        go_rounds 3
        go_roundw
        case rel =>
          refine ⟨k + 1, by omega, by go_num, fun j hj hjk => ?_, hKe2⟩
          by_cases hj' : j < k
          · exact hall.out j hj hj'
          · obtain rfl : j = k := by omega
            simp [Lk.ok]
            simp at hAB
            omega
        case measure => simp [intOf]; omega
    · obtain rfl : k = ls.length := by omega
      go_wp2
      go_ret
      exact ⟨by rw [linksOk_yes (fun j hj => hall.out j hj hj)]; rfl, hKw⟩
end Go.Proofs.Ytgnhhhcelfaliaa
