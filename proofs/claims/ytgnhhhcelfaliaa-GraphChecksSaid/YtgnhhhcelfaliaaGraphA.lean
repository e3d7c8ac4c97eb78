/- Layer 18's small functions and the reference's: what each call returns; memory that was there stays. No condition but the stated bounds. -/
import Derived.Test.YtgnhhhcelfaliaaRows
import Derived.Test.YtgnhhhcelfaliaaBase
namespace Go.Proofs.Ytgnhhhcelfaliaa
open Go.RowKit

/-- A link as plain data. -/
structure Lk where
  A : Int
  B : Int
  Up : Bool
def Lk.enc (l : Lk) : List Value := [.int .i64 l.A, .int .i64 l.B, .bool l.Up]
def Lk.has (l : Lk) (r : Int) : Bool := l.A == r || l.B == r

theorem lk_at {w : World} {A : Option Addr} {ls : List Lk} (h : Rd w 3 Lk.enc A ls) {k : Nat} (hk : k < ls.length) :
    ∃ b off : Nat, A = some ⟨b, off, none⟩ ∧ w.cell? ⟨b, off + k * 3, none⟩ = some (.int .i64 ls[k].A) ∧ w.cell? ⟨b, off + k * 3 + 1, none⟩ = some (.int .i64 ls[k].B) ∧ w.cell? ⟨b, off + k * 3 + 2, none⟩ = some (.bool ls[k].Up) := by
  obtain ⟨b, off, e, hc⟩ := h k hk
  exact ⟨b, off, e, hc 0 _ rfl, hc 1 _ rfl, hc 2 _ rfl⟩

def facesTo (ls : List Lk) (r : Int) : Nat → List Int
  | 0 => []
  | k + 1 => facesTo ls r k ++ (if ((ls[k]?).map (·.has r)).getD false then [(k : Int)] else [])
def faces (ls : List Lk) (r : Int) : List Int := facesTo ls r ls.length

theorem facesTo_len (ls : List Lk) (r : Int) (k : Nat) : (facesTo ls r k).length ≤ k := by
  induction k with
  | zero => simp [facesTo]
  | succ k ih => simp only [facesTo, List.length_append]; split <;> simp <;> omega
theorem facesTo_hit (ls : List Lk) (r : Int) (k : Nat) (hk : k < ls.length) (h : (ls[k].has r) = true) : facesTo ls r (k + 1) = facesTo ls r k ++ [(k : Int)] := by
  simp [facesTo, List.getElem?_eq_getElem hk, h]
theorem facesTo_miss (ls : List Lk) (r : Int) (k : Nat) (hk : k < ls.length) (h : (ls[k].has r) = false) : facesTo ls r (k + 1) = facesTo ls r k := by
  simp [facesTo, List.getElem?_eq_getElem hk, h]

/-- A row of ints of the call's own. -/
abbrev OwnI (w : World) (base : Nat) (v : Value) (l : List Int) : Prop := Own w base 3 1 intE v l

theorem EInt : ElemOf Try.prog 27 3 (.int .i64 0) 1 8 := ⟨Try.underlying27, by kernel_rfl, rfl, by decide⟩

set_option maxHeartbeats 400000 in
theorem faces_any (R r : Int) (A : Option Addr) (c : Nat) (ls : List Lk) (w : World) (hR : Rd w 3 Lk.enc A ls) (hn : ls.length ≤ 1000000) :
    Calls Try.prog 39 #[.agg #[.int .i64 R, .slice A ls.length c], .int .i64 r] w fun e w' => ∃ v, e = .returned v ∧ OwnI w' w.heap.size v (faces ls r) ∧ Kp w w' := by
  go_enter Try.func39, Try.ntmps39
  go_wp2
  go_loopw [5, 12] (fun v i wr => ∃ k : Nat, k ≤ ls.length ∧ i = .int .i64 k ∧ OwnI wr w.heap.size v (facesTo ls r k) ∧ Kp w wr) (fun _ i _ => ls.length - (intOf i).toNat)
  case atStart => exact ⟨0, Nat.zero_le _, rfl, Own.nil _ _ _ _ _, (Kp.refl _).alloc _⟩
  case round =>
    obtain ⟨k, hk, rfl, hown, hK⟩ := hrel
    have hl := facesTo_len ls r k
    have hsz := hK.size
    by_cases hlt : k < ls.length
    · obtain ⟨b, off, rfl, c0, c1, c2⟩ := lk_at (hR.keep hK) hlt
      by_cases ha : (ls[k].A == r) = true
      · have H := Lib.hid (show ls[k].has r = true by simp [Lk.has, ha])
        go_wp2_with (at_builtin; go_must (refine wpList_appx EInt rfl _ _ rfl (k : Int) rfl (hown.alloc _) (hK.alloc _) (Nat.le_refl _) (by simp; omega) rfl (by simp) rfl rfl rfl (by omega) ?_); intro v' w1 hown' hK' _)
        go_roundw
        case rel => exact ⟨k + 1, by omega, by go_num, (by rw [facesTo_hit ls r k hlt H.out]; exact hown'), hK'⟩
        case measure => simp [intOf]; omega
      · have ha' : (ls[k].A == r) = false := by simpa using ha
        by_cases hb : (ls[k].B == r) = true
        · have H := Lib.hid (show ls[k].has r = true by simp [Lk.has, hb])
          go_wp2_with (at_builtin; go_must (refine wpList_appx EInt rfl _ _ rfl (k : Int) rfl (hown.alloc _) (hK.alloc _) (Nat.le_refl _) (by simp; omega) rfl (by simp) rfl rfl rfl (by omega) ?_); intro v' w1 hown' hK' _)
          go_roundw
          case rel => exact ⟨k + 1, by omega, by go_num, (by rw [facesTo_hit ls r k hlt H.out]; exact hown'), hK'⟩
          case measure => simp [intOf]; omega
        · have hb' : (ls[k].B == r) = false := by simpa using hb
          have H := Lib.hid (show ls[k].has r = false by simp [Lk.has, ha', hb'])
          go_wp2
          go_roundw
          case rel => exact ⟨k + 1, by omega, by go_num, (by rw [facesTo_miss ls r k hlt H.out]; exact hown.alloc _), hK.alloc _⟩
          case measure => simp [intOf]; omega
    · obtain rfl : k = ls.length := by omega
      go_wp2
      go_ret
      exact ⟨_, rfl, hown, hK⟩

set_option maxHeartbeats 400000 in
theorem few_any (r : Int) (A : Option Addr) (n c : Nat) (w : World) :
    Calls Try.prog 8 #[.agg #[.int .i64 r, .slice A n c]] w fun e w' => e = .returned (.bool (decide ((n : Int) ≤ 30))) ∧ Kp w w' := by
  go_enter Try.func8, Try.ntmps8
  go_wp2
  go_ret
  exact ⟨rfl, (Kp.refl _).alloc _⟩

set_option maxHeartbeats 400000 in
theorem has_any (l : Lk) (r : Int) (w : World) :
    Calls Try.prog 28 #[.agg #[.int .i64 l.A, .int .i64 l.B, .bool l.Up], .int .i64 r] w fun e w' => e = .returned (.bool (l.has r)) ∧ Kp w w' := by
  have H := Lib.hid (show l.has r = (l.A == r || l.B == r) from rfl)
  by_cases h : (l.A == r) = true
  · go_enter Try.func28, Try.ntmps28
    go_wp2
    go_ret
    exact ⟨by rw [H.out, h]; rfl, (Kp.refl _).alloc _⟩
  · have h1 : (l.A == r) = false := by simpa using h
    go_enter Try.func28, Try.ntmps28
    go_wp2
    go_ret
    exact ⟨by rw [H.out, h1]; rfl, (Kp.refl _).alloc _⟩

set_option maxHeartbeats 400000 in
theorem rlinks_any (R r : Int) (A : Option Addr) (c : Nat) (ls : List Lk) (w : World) (hR : Rd w 3 Lk.enc A ls) (hn : ls.length ≤ 1000000) :
    Calls Try.prog 19 #[.agg #[.int .i64 R, .slice A ls.length c], .int .i64 r] w fun e w' => ∃ v, e = .returned v ∧ OwnI w' w.heap.size v (faces ls r) ∧ Kp w w' := by
  go_enter Try.func19, Try.ntmps19
  go_wp2
  go_loopw [5, 6] (fun v i wr => ∃ k : Nat, k ≤ ls.length ∧ i = .int .i64 k ∧ OwnI wr (w.heap.size + 1) v (facesTo ls r k) ∧ Kp (w.alloc (.cells #[.int .i64 R, .slice A ls.length c] 24)) wr) (fun _ i _ => ls.length - (intOf i).toNat)
  case atStart => exact ⟨0, Nat.zero_le _, rfl, Own.nil _ _ _ _ _, Kp.refl _⟩
  case round =>
    obtain ⟨k, hk, rfl, hown, hK⟩ := hrel
    have hl := facesTo_len ls r k
    have hsz := hK.size
    simp at hsz
    have g0 : wr.cell? ⟨w.heap.size, 0, none⟩ = some (.int .i64 R) := hK.cell (by simp [go_sem])
    have g1 : wr.cell? ⟨w.heap.size, 1, none⟩ = some (.slice A ls.length c) := hK.cell (by simp [go_sem])
    have hKw : Kp w wr := ((Kp.refl _).alloc _).trans hK
    by_cases hlt : k < ls.length
    · obtain ⟨b, off, rfl, c0, c1, c2⟩ := lk_at (hR.keep hKw) hlt
      go_wp2_with fail
      refine (has_any ls[k] r _).mono ?_
      rintro e w1 ⟨rfl, hK1⟩
      have hK2 := hK.trans hK1
      have hsz1 := hK1.size
      by_cases hh : ls[k].has r = true
      · have H := Lib.hid hh
        go_wp2_with (at_builtin; go_must (refine wpList_appx EInt rfl _ _ rfl (k : Int) rfl (hown.keep hK1) hK2 (by simp) (by omega) rfl rfl rfl rfl rfl (by omega) ?_); intro v' w2 hown' hK' _)
        go_roundw
        case rel => exact ⟨k + 1, by omega, by go_num, (by rw [facesTo_hit ls r k hlt H.out]; exact hown'), hK'⟩
        case measure => simp [intOf]; omega
      · have hh' : ls[k].has r = false := by simpa using hh
        have H := Lib.hid hh'
        go_wp2_with fail
        go_roundw
        case rel => exact ⟨k + 1, by omega, by go_num, (by rw [facesTo_miss ls r k hlt H.out]; exact hown.keep hK1), hK2⟩
        case measure => simp [intOf]; omega
    · obtain rfl : k = ls.length := by omega
      go_wp2
      go_ret
      exact ⟨_, rfl, hown.mono (by omega), hKw⟩
end Go.Proofs.Ytgnhhhcelfaliaa
