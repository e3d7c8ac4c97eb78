/- Layer 2's functions over plain numbers: mask, holds, mayBe, Check, Stands, Bit; and the trie's isOrWithin. Condition: the table of relations reads as it is laid. -/
import Derived.Test.YtfaiponmjjbgoaaDoorRows
import Derived.Test.YtfaiponmjjbgoaaDoorRec
import Derived.Test.YtfaiponmjjbgoaaDoorPx2
import Derived.Deep.RegionHeld3
namespace Go.Proofs.YtfaiponmjjbgoaaDoor
open Go.RowKit

theorem mask_eq {n : Nat} (h : n ≤ 32) : (4294967295 : Int) * 2 ^ (32 - n) % 4294967296 = (maskN n : Int) := by
  have h1 := pow_le32 n
  have h2 : 0 < 2 ^ (32 - n) := Nat.two_pow_pos _
  unfold maskN
  generalize hs : 2 ^ (32 - n) = s at *
  have hc : ((2 : Int) ^ (32 - n)) = (s : Int) := by rw [← hs]; simp
  rw [hc]
  omega
theorem and_u32 (a b : Nat) (ha : a < 4294967296) (hb : b < 4294967296) : bits .and .u32 (a : Int) (b : Int) = ((a &&& b : Nat) : Int) := by
  have hx : a &&& b < 2 ^ 32 := Nat.and_lt_two_pow _ (by omega)
  have h1 : (BitVec.ofInt 32 (a : Int)).toNat = a := by
    rw [BitVec.ofInt_natCast, BitVec.toNat_ofNat]; exact Nat.mod_eq_of_lt (by omega)
  have h2 : (BitVec.ofInt 32 (b : Int)).toNat = b := by
    rw [BitVec.ofInt_natCast, BitVec.toNat_ofNat]; exact Nat.mod_eq_of_lt (by omega)
  show IntKind.u32.wrap ((BitVec.ofInt 32 (a : Int) &&& BitVec.ofInt 32 (b : Int)).toNat : Int) = _
  rw [BitVec.toNat_and, h1, h2]
  show ((a &&& b : Nat) : Int) % 4294967296 = _
  omega
theorem andnot_u32 (a b : Nat) (ha : a < 4294967296) (hb : b < 4294967296) : bits .andNot .u32 (a : Int) (b : Int) = ((a &&& (4294967295 - b) : Nat) : Int) := by
  have hx : a &&& (4294967295 - b) < 2 ^ 32 := Nat.and_lt_two_pow _ (by omega)
  have h1 : (BitVec.ofInt 32 (a : Int)).toNat = a := by
    rw [BitVec.ofInt_natCast, BitVec.toNat_ofNat]; exact Nat.mod_eq_of_lt (by omega)
  have h2 : (BitVec.ofInt 32 (b : Int)).toNat = b := by
    rw [BitVec.ofInt_natCast, BitVec.toNat_ofNat]; exact Nat.mod_eq_of_lt (by omega)
  show IntKind.u32.wrap ((BitVec.ofInt 32 (a : Int) &&& ~~~ BitVec.ofInt 32 (b : Int)).toNat : Int) = _
  rw [BitVec.toNat_and, BitVec.toNat_not, h1, h2]
  show ((a &&& (2 ^ 32 - 1 - b) : Nat) : Int) % 4294967296 = _
  rw [show (2 ^ 32 - 1 - b) = 4294967295 - b by omega]
  omega
theorem maskN_lt (n : Nat) : maskN n < 4294967296 := by have := Nat.two_pow_pos (32 - n); unfold maskN; omega

set_option maxHeartbeats 400000 in
theorem mask_any (n : Nat) (w : World) (h1 : n ≤ 32) :
    Calls Tryd.prog 58 #[.int .i64 n] w fun e w' => e = .returned (.int .u32 (maskN n)) ∧ w = w' := by
  have H := Lib.hid (mask_eq h1)
  go_enter Tryd.func58, Tryd.ntmps58
  go_wp2
  go_ret
  exact ⟨by rw [← H.out]; rfl, rfl⟩

/-- 1, if one holds the other. -/
def holdsI (p q : Pn) : Nat := if p.holds q then 1 else 0

set_option maxRecDepth 100000 in
set_option maxHeartbeats 1000000 in
theorem holds_any (p q : Pn) (w : World) (hp : p.a < 4294967296) (hq : q.a < 4294967296) (hl : p.l ≤ 32) (hl2 : q.l ≤ 32) :
    Calls Tryd.prog 61 #[.agg #[.int .u32 p.a, .int .i64 p.l], .agg #[.int .u32 q.a, .int .i64 q.l]] w fun e w' => e = .returned (.int .i64 (holdsI p q : Nat)) ∧ Kp w w' := by
  have hb := Lib.hid (and_u32 q.a (maskN p.l) hq (maskN_lt _))
  have hm := Lib.hid (and_mask hq hl)
  obtain ⟨W, hW, kW, B0, B1⟩ : ∃ W, (w.alloc (.cells #[.int .u32 p.a, .int .i64 p.l] 29)).alloc (.cells #[.int .u32 q.a, .int .i64 q.l] 29) = W ∧ Kp w W ∧ Blk W w.heap.size 29 #[.int .u32 p.a, .int .i64 p.l] ∧ Blk W (w.heap.size + 1) 29 #[.int .u32 q.a, .int .i64 q.l] :=
    ⟨_, rfl, ((Kp.refl _).alloc _).alloc _, (Blk.new w _ _).alloc _, Blk.new1 w _ _ _⟩
  have p0 : W.cell? ⟨w.heap.size, 0, none⟩ = some (.int .u32 p.a) := B0.cell 0
  have p1 : W.cell? ⟨w.heap.size, 1, none⟩ = some (.int .i64 p.l) := B0.cell 1
  have q0 : W.cell? ⟨w.heap.size + 1, 0, none⟩ = some (.int .u32 q.a) := B1.cell 0
  have q1 : W.cell? ⟨w.heap.size + 1, 1, none⟩ = some (.int .i64 q.l) := B1.cell 1
  by_cases h : p.l ≤ q.l
  · have hd : decide (p.l ≤ q.l) = true := by simpa using h
    by_cases he : cut q.a p.l = p.a
    · have H := Lib.hid (show holdsI p q = 1 by simp [holdsI, Pn.holds, h, he])
      have hcmp : (bits .and .u32 (q.a : Int) (maskN p.l : Int) == (p.a : Int)) = true := by rw [hb.out, hm.out, he]; simp
      clear he
      go_enter Tryd.func61, Tryd.ntmps61
      go_wp2_with fail
      go_region_held3 (fun w' => w'.cell? ⟨w.heap.size, 0, none⟩ = some (.int .u32 p.a) ∧ w'.cell? ⟨w.heap.size, 1, none⟩ = some (.int .i64 p.l) ∧ w'.cell? ⟨w.heap.size + 1, 0, none⟩ = some (.int .u32 q.a) ∧ w'.cell? ⟨w.heap.size + 1, 1, none⟩ = some (.int .i64 q.l)) (go_keep)
        (first | (go_at_call 58; refine (mask_any _ _ hl).mono ?_; rintro e w' ⟨rfl, rfl⟩))
      go_wp2_with fail
      go_ret
      exact ⟨by rw [H.out]; rfl, kW.drew⟩
    · have H := Lib.hid (show holdsI p q = 0 by simp [holdsI, Pn.holds, he])
      have hcmp : (bits .and .u32 (q.a : Int) (maskN p.l : Int) == (p.a : Int)) = false := by rw [hb.out, hm.out]; simp; omega
      clear he
      go_enter Tryd.func61, Tryd.ntmps61
      go_wp2_with fail
      go_region_held3 (fun w' => w'.cell? ⟨w.heap.size, 0, none⟩ = some (.int .u32 p.a) ∧ w'.cell? ⟨w.heap.size, 1, none⟩ = some (.int .i64 p.l) ∧ w'.cell? ⟨w.heap.size + 1, 0, none⟩ = some (.int .u32 q.a) ∧ w'.cell? ⟨w.heap.size + 1, 1, none⟩ = some (.int .i64 q.l)) (go_keep)
        (first | (go_at_call 58; refine (mask_any _ _ hl).mono ?_; rintro e w' ⟨rfl, rfl⟩))
      go_wp2_with fail
      go_ret
      exact ⟨by rw [H.out]; rfl, kW.drew⟩
  · have H := Lib.hid (show holdsI p q = 0 by simp [holdsI, Pn.holds, h])
    have hd : decide (p.l ≤ q.l) = false := by simpa using h
    clear h
    go_enter Tryd.func61, Tryd.ntmps61
    go_wp2_with fail
    go_quiet (fail)
    go_wp2_with fail
    go_ret
    exact ⟨by rw [H.out]; rfl, kW.drewN _⟩

set_option maxHeartbeats 400000 in
theorem bit_any (a i : Nat) (w : World) (ha : a < 4294967296) (hi : i ≤ 32) :
    Calls Tryd.prog 50 #[.int .u32 a, .int .i64 i] w fun e w' => e = .returned (.int .i64 (bitN a i)) ∧ w = w' := by
  by_cases h : i < 32
  · have hq : (a : Int) / 2 ^ (31 - i) = ((a / 2 ^ (31 - i) : Nat) : Int) := by simp
    have hb : bits .and .u32 ((a / 2 ^ (31 - i) : Nat) : Int) 1 = ((a / 2 ^ (31 - i) % 2 : Nat) : Int) := by
      have := and_u32 (a / 2 ^ (31 - i)) 1 (Nat.lt_of_le_of_lt (Nat.div_le_self _ _) ha) (by omega)
      rw [Nat.and_one_is_mod] at this
      exact this
    have H := Lib.hid (show bitN a i = a / 2 ^ (31 - i) % 2 by simp [bitN, h])
    have Hq := Lib.hid hq; clear hq
    have Hb := Lib.hid hb; clear hb
    have hw : wrap64 ((a / 2 ^ (31 - i) % 2 : Nat) : Int) = ((a / 2 ^ (31 - i) % 2 : Nat) : Int) := IntWalk.wrap64_in _ ⟨by omega, by omega⟩
    have Hw := Lib.hid hw; clear hw
    go_enter Tryd.func50, Tryd.ntmps50
    go_wp2
    go_ret
    rw [Hq.out, Hb.out, Hw.out, H.out]
    exact ⟨rfl, rfl⟩
  · have H := Lib.hid (show bitN a i = 0 by simp [bitN, h])
    go_enter Tryd.func50, Tryd.ntmps50
    go_wp2
    go_ret
    exact ⟨by rw [H.out]; rfl, rfl⟩
end Go.Proofs.YtfaiponmjjbgoaaDoor
