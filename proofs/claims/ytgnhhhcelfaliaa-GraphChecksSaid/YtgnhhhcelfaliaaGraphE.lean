/- Layer 18's reference, the rest: faces' numbers, other ends, nets, addresses. No condition but the stated bounds. -/
import Derived.Test.YtgnhhhcelfaliaaGraphD
import Derived.Test.YtgnhhhcelfaliaaPrefA
namespace Go.Proofs.Ytgnhhhcelfaliaa
open Go.RowKit

set_option maxHeartbeats 400000 in
theorem rface_any (R r : Int) (l : Nat) (A : Option Addr) (c : Nat) (ls : List Lk) (w : World) (hR : Rd w 3 Lk.enc A ls) (hn : ls.length ≤ 30) (hl : l ≤ ls.length) :
    Calls Try.prog 21 #[.agg #[.int .i64 R, .slice A ls.length c], .int .i64 r, .int .i64 l] w fun e w' => e = .returned (.int .i64 (facesTo ls r l).length) ∧ Kp w w' := by
  go_enter Try.func21, Try.ntmps21
  go_wp2
  go_loopw [7, 8] (fun v i wr => ∃ k : Nat, k ≤ l ∧ i = .int .i64 k ∧ v = .int .i64 (facesTo ls r k).length ∧ Kp (w.alloc (.cells #[.int .i64 R, .slice A ls.length c] 24)) wr) (fun _ i _ => l - (intOf i).toNat)
  case atStart => exact ⟨0, Nat.zero_le _, rfl, rfl, Kp.refl _⟩
  case round =>
    obtain ⟨k, hk, rfl, rfl, hK⟩ := hrel
    have hlen := facesTo_len ls r k
    have g1 : wr.cell? ⟨w.heap.size, 1, none⟩ = some (.slice A ls.length c) := hK.cell (by simp [go_sem])
    have hKw : Kp w wr := ((Kp.refl _).alloc _).trans hK
    by_cases hlt : k < l
    · have hlt' : k < ls.length := by omega
      obtain ⟨b, off, rfl, c0, c1, c2⟩ := lk_at (hR.keep hKw) hlt'
      go_wp2_with fail
      refine (has_any ls[k] r _).mono ?_
      rintro e w1 ⟨rfl, hK1⟩
      have hK2 := hK.trans hK1
      cases hh : ls[k].has r with
      | true =>
        have H := Lib.hid hh; clear hh
        go_wp2_with fail
        go_roundw
        case rel => exact ⟨k + 1, by omega, by go_num, by rw [facesTo_hit ls r k hlt' H.out]; simp, hK2⟩
        case measure => simp [intOf]; omega
      | false =>
        have H := Lib.hid hh; clear hh
        go_wp2_with fail
        go_roundw
        case rel => exact ⟨k + 1, by omega, by go_num, by rw [facesTo_miss ls r k hlt' H.out], hK2⟩
        case measure => simp [intOf]; omega
    · obtain rfl : k = l := by omega
      go_wp2
      go_ret
      exact ⟨rfl, hKw⟩

/-- A link's cells, behind one block more. -/
theorem lk_at1 {w : World} {A : Option Addr} {ls : List Lk} (h : Rd w 3 Lk.enc A ls) {k : Nat} (hk : k < ls.length) :
    ∃ b off : Nat, A = some ⟨b, off, none⟩ ∧ (∀ o, (w.alloc o).cell? ⟨b, off + k * 3, none⟩ = some (.int .i64 ls[k].A)) ∧ (∀ o, (w.alloc o).cell? ⟨b, off + k * 3 + 1, none⟩ = some (.int .i64 ls[k].B)) ∧ (∀ o, (w.alloc o).cell? ⟨b, off + k * 3 + 2, none⟩ = some (.bool ls[k].Up)) := by
  obtain ⟨b, off, e, c0, c1, c2⟩ := lk_at h hk
  exact ⟨b, off, e, fun o => ((Kp.refl w).alloc o).cell c0, fun o => ((Kp.refl w).alloc o).cell c1, fun o => ((Kp.refl w).alloc o).cell c2⟩

set_option maxHeartbeats 400000 in
theorem rother_any (R r : Int) (l : Nat) (A : Option Addr) (c : Nat) (ls : List Lk) (w : World) (hR : Rd w 3 Lk.enc A ls) (hl : l < ls.length)
    (hA : 0 ≤ ls[l].A ∧ ls[l].A ≤ 100) (hB : 0 ≤ ls[l].B ∧ ls[l].B ≤ 100) (hr : 0 ≤ r ∧ r ≤ 100) :
    Calls Try.prog 22 #[.agg #[.int .i64 R, .slice A ls.length c], .int .i64 r, .int .i64 l] w fun e w' => e = .returned (.int .i64 (ls[l].A + ls[l].B - r)) ∧ Kp w w' := by
  obtain ⟨b, off, rfl, c0, c1, c2⟩ := lk_at1 hR hl
  go_enter Try.func22, Try.ntmps22
  go_wp2_with fail
  go_quiet (fail)
  go_wp2
  go_ret
  exact ⟨rfl, ((Kp.refl _).alloc _).drewN _⟩

theorem field_pfx0 (x y : Value) (w : World) : (Instr.field 38 (.agg #[x, y]) 0).run Try.prog w = .ok x w := by kernel_rfl

/-- The address of a link's net. -/
def netI (l : Int) : Int := 180879360 + 256 * l
theorem netI_bd {l : Int} (h0 : 0 ≤ l) (h1 : l ≤ 23) : 0 ≤ netI l ∧ netI l ≤ 180890000 := by unfold netI; omega

set_option maxHeartbeats 400000 in
theorem rnet_any (l : Int) (w : World) (h0 : 0 ≤ l) (h1 : l ≤ 23) :
    Calls Try.prog 16 #[.int .i64 l] w fun e w' => e = .returned (.agg #[.int .u32 (netI l), .int .i64 30]) ∧ Kp w w' := by
  go_enter Try.func16, Try.ntmps16
  go_wp2_with fail
  refine bodyPost_ret (v := .agg #[.int .u32 (180879360 + 256 * l), .int .i64 30]) (by simp [results, Try.results16, go_sem]) rfl ⟨rfl, by unfold Kp; go_grown⟩

set_option maxRecDepth 100000 in
set_option maxHeartbeats 400000 in
theorem raddr_any (R r : Int) (l : Nat) (A : Option Addr) (c : Nat) (ls : List Lk) (w : World) (hR : Rd w 3 Lk.enc A ls) (h24 : l ≤ 23) (hl : l < ls.length) :
    Calls Try.prog 23 #[.agg #[.int .i64 R, .slice A ls.length c], .int .i64 r, .int .i64 l] w fun e w' => e = .returned (.int .u32 (netI l + if ls[l].A = r then 1 else 2)) ∧ Kp w w' := by
  obtain ⟨b, off, rfl, c0, c1, c2⟩ := lk_at1 hR hl
  by_cases h : ls[l].A = r
  · have h' : (ls[l].A == r) = true := by simpa using h
    rw [if_pos h]
    clear h
    go_enter Try.func23, Try.ntmps23
    go_wp2_with fail
    refine (rnet_any l _ (by omega) (by omega)).mono ?_
    rintro e w1 ⟨rfl, hK1⟩
    obtain ⟨n0, n1⟩ := netI_bd (show (0 : Int) ≤ l by omega) (by omega)
    generalize hq : netI l = q at *
    have Hq := Lib.hid hq; clear hq
    have hf := field_pfx0
    go_wp2_with fail
    go_ret
    exact ⟨by rw [Hq.out]; rfl, ((Kp.refl _).alloc _).trans hK1⟩
  · have h' : (ls[l].A == r) = false := by simpa using h
    rw [if_neg h]
    clear h
    go_enter Try.func23, Try.ntmps23
    go_wp2_with fail
    refine (rnet_any l _ (by omega) (by omega)).mono ?_
    rintro e w1 ⟨rfl, hK1⟩
    obtain ⟨n0, n1⟩ := netI_bd (show (0 : Int) ≤ l by omega) (by omega)
    generalize hq : netI l = q at *
    have Hq := Lib.hid hq; clear hq
    have hf := field_pfx0
    go_wp2_with fail
    go_ret
    exact ⟨by rw [Hq.out]; rfl, ((Kp.refl _).alloc _).trans hK1⟩

theorem ints_ne_len {xs ys : List Int} (h : ¬ xs.length = ys.length) : decide (xs = ys) = false := by
  simp only [decide_eq_false_iff_not]; rintro rfl; exact h rfl
theorem ints_ne_at {xs ys : List Int} {k : Nat} (hx : k < xs.length) (hy : k < ys.length) (h : ¬ xs[k] = ys[k]) : decide (xs = ys) = false := by
  simp only [decide_eq_false_iff_not]; rintro rfl; exact h rfl
theorem ints_eq {xs ys : List Int} (hl : xs.length = ys.length) (h : ∀ j (h1 : j < xs.length) (h2 : j < ys.length), xs[j] = ys[j]) : decide (xs = ys) = true := by
  simp only [decide_eq_true_eq]; exact List.ext_getElem hl h

set_option maxHeartbeats 400000 in
theorem rints_any (A B : Option Addr) (c d : Nat) (xs ys : List Int) (w : World) (hA : Rd w 1 intE A xs) (hB : Rd w 1 intE B ys) (hn : xs.length ≤ 1000000) :
    Calls Try.prog 18 #[.slice A xs.length c, .slice B ys.length d] w fun e w' => e = .returned (.bool (decide (xs = ys))) ∧ Kp w w' := by
  by_cases hl : xs.length = ys.length
  · have hb : ((xs.length : Int) != (ys.length : Int)) = false := by simp [hl]
    have Hl := Lib.hid hl; clear hl
    go_enter Try.func18, Try.ntmps18
    go_wp2
    go_loopw [5] (fun i wr => ∃ k : Nat, k ≤ xs.length ∧ i = .int .i64 k ∧ Hid (∀ j (h1 : j < xs.length) (h2 : j < ys.length), j < k → xs[j] = ys[j]) ∧ Kp w wr) (fun i _ => xs.length - (intOf i).toNat)
    case atStart => exact ⟨0, Nat.zero_le _, rfl, fun _ _ _ h => absurd h (by omega), Kp.refl _⟩
    case round =>
      obtain ⟨k, hk, rfl, hall, hK⟩ := hrel
      by_cases hlt : k < xs.length
      · have hlt2 : k < ys.length := by have := Hl.out; omega
        obtain ⟨b, off, rfl, c0⟩ := int_at (hA.keep hK) hlt
        obtain ⟨b2, off2, rfl, d0⟩ := int_at (hB.keep hK) hlt2
        by_cases he : xs[k] = ys[k]
        · have hne : (xs[k] != ys[k]) = false := by simp [he]
          have H := Lib.hid he; clear he
          go_wp2_with fail
          go_quiet (fail)
          go_wp2_with fail
          go_roundw
          case rel =>
            refine ⟨k + 1, by omega, by go_num, fun j h1 h2 hj => ?_, hK.drewN _⟩
            by_cases hj' : j < k
            · exact hall.out j h1 h2 hj'
            · obtain rfl : j = k := by omega
              exact H.out
          case measure => simp [intOf]; omega
        · have hne : (xs[k] != ys[k]) = true := by simpa using he
          have H := Lib.hid (ints_ne_at hlt hlt2 he); clear he
          go_wp2_with fail
          go_quiet (fail)
          go_wp2_with fail
          go_ret
          exact ⟨by rw [H.out]; rfl, hK.drewN _⟩
      · obtain rfl : k = xs.length := by omega
        go_wp2
        go_ret
        exact ⟨by rw [ints_eq Hl.out (fun j h1 h2 => hall.out j h1 h2 h1)]; rfl, hK⟩
  · have hb : ((xs.length : Int) != (ys.length : Int)) = true := by simp; omega
    have H := Lib.hid (ints_ne_len hl); clear hl
    go_enter Try.func18, Try.ntmps18
    go_wp2
    go_ret
    exact ⟨by rw [H.out]; rfl, Kp.refl _⟩
end Go.Proofs.Ytgnhhhcelfaliaa
