/- Lemmas and contracts for the theorem of this claim: Cel2, Px, Px2, VPfA, VPfB, VGen, VKdA, VKdB. -/
import Derived.Test.YtgopnfacklmkaaaGreatDoorZyAb
import Derived.Laws.Entries
import Derived.Test.YtgopnfacklmkaaaGreatDoorRows
import Derived.Deep.RegionHeld3
import Derived.BigFrameIn
import Derived.BigGuardIn
import Derived.TacticsIn
import Derived.TacticsInMore
import Derived.Deep.Cut
import Derived.OwnWalkIn
import Derived.Deep.LoopGhost
import Derived.Deep.DeepCutAuto
import Derived.RegionTactic
import Derived.LoopN
import Derived.RangeFuncCalls
set_option linter.all false
set_option maxHeartbeats 16000000
namespace Go.Proofs.YtgopnfacklmkaaaGreatDoor
section
open Go.RowKit
section
variable {w : World} {g : Nat} {t : TypeId} {cs : Array Value} {r : List Value}
theorem Blk.v2 (h : Blk w g t cs) (a0 a1 : Value) (e : cs = List.toArray (a0 :: a1 :: r)) : w.cell? ⟨g, 0, none⟩ = some a0 ∧ w.cell? ⟨g, 1, none⟩ = some a1 := by
 subst e
 exact ⟨h.cell 0, h.cell 1⟩
theorem Blk.p2 {a0 a1 : Value} (h : Blk w g t (List.toArray (a0 :: a1 :: r))) : w.cell? ⟨g, 0, none⟩ = some a0 ∧ w.cell? ⟨g, 1, none⟩ = some a1 := ⟨h.cell 0, h.cell 1⟩
theorem Blk.v3 (h : Blk w g t cs) (a0 a1 a2 : Value) (e : cs = List.toArray (a0 :: a1 :: a2 :: r)) : w.cell? ⟨g, 0, none⟩ = some a0 ∧ w.cell? ⟨g, 1, none⟩ = some a1 ∧ w.cell? ⟨g, 2, none⟩ = some a2 := by
 subst e
 exact ⟨h.cell 0, h.cell 1, h.cell 2⟩
theorem Blk.v4 (h : Blk w g t cs) (a0 a1 a2 a3 : Value) (e : cs = List.toArray (a0 :: a1 :: a2 :: a3 :: r)) : w.cell? ⟨g, 0, none⟩ = some a0 ∧ w.cell? ⟨g, 1, none⟩ = some a1 ∧ w.cell? ⟨g, 2, none⟩ = some a2 ∧ w.cell? ⟨g, 3, none⟩ = some a3 := by
 subst e
 exact ⟨h.cell 0, h.cell 1, h.cell 2, h.cell 3⟩
theorem Blk.v6 (h : Blk w g t cs) (a0 a1 a2 a3 a4 a5 : Value) (e : cs = List.toArray (a0 :: a1 :: a2 :: a3 :: a4 :: a5 :: r)) : w.cell? ⟨g, 0, none⟩ = some a0 ∧ w.cell? ⟨g, 1, none⟩ = some a1 ∧ w.cell? ⟨g, 2, none⟩ = some a2 ∧ w.cell? ⟨g, 3, none⟩ = some a3 ∧ w.cell? ⟨g, 4, none⟩ = some a4 ∧ w.cell? ⟨g, 5, none⟩ = some a5 := by
 subst e
 exact ⟨h.cell 0, h.cell 1, h.cell 2, h.cell 3, h.cell 4, h.cell 5⟩
theorem Blk.v8 (h : Blk w g t cs) (a0 a1 a2 a3 a4 a5 a6 a7 : Value) (e : cs = List.toArray (a0 :: a1 :: a2 :: a3 :: a4 :: a5 :: a6 :: a7 :: r)) : w.cell? ⟨g, 0, none⟩ = some a0 ∧ w.cell? ⟨g, 1, none⟩ = some a1 ∧ w.cell? ⟨g, 2, none⟩ = some a2 ∧ w.cell? ⟨g, 3, none⟩ = some a3 ∧ w.cell? ⟨g, 4, none⟩ = some a4 ∧ w.cell? ⟨g, 5, none⟩ = some a5 ∧ w.cell? ⟨g, 6, none⟩ = some a6 ∧ w.cell? ⟨g, 7, none⟩ = some a7 := by
 subst e
 exact ⟨h.cell 0, h.cell 1, h.cell 2, h.cell 3, h.cell 4, h.cell 5, h.cell 6, h.cell 7⟩
theorem Blk.p8 {a0 a1 a2 a3 a4 a5 a6 a7 : Value} (h : Blk w g t (List.toArray (a0 :: a1 :: a2 :: a3 :: a4 :: a5 :: a6 :: a7 :: r))) : w.cell? ⟨g, 0, none⟩ = some a0 ∧ w.cell? ⟨g, 1, none⟩ = some a1 ∧ w.cell? ⟨g, 2, none⟩ = some a2 ∧ w.cell? ⟨g, 3, none⟩ = some a3 ∧ w.cell? ⟨g, 4, none⟩ = some a4 ∧ w.cell? ⟨g, 5, none⟩ = some a5 ∧ w.cell? ⟨g, 6, none⟩ = some a6 ∧ w.cell? ⟨g, 7, none⟩ = some a7 := ⟨h.cell 0, h.cell 1, h.cell 2, h.cell 3, h.cell 4, h.cell 5, h.cell 6, h.cell 7⟩
theorem Blk.v9 (h : Blk w g t cs) (a0 a1 a2 a3 a4 a5 a6 a7 a8 : Value) (e : cs = List.toArray (a0 :: a1 :: a2 :: a3 :: a4 :: a5 :: a6 :: a7 :: a8 :: r)) : w.cell? ⟨g, 0, none⟩ = some a0 ∧ w.cell? ⟨g, 1, none⟩ = some a1 ∧ w.cell? ⟨g, 2, none⟩ = some a2 ∧ w.cell? ⟨g, 3, none⟩ = some a3 ∧ w.cell? ⟨g, 4, none⟩ = some a4 ∧ w.cell? ⟨g, 5, none⟩ = some a5 ∧ w.cell? ⟨g, 6, none⟩ = some a6 ∧ w.cell? ⟨g, 7, none⟩ = some a7 ∧ w.cell? ⟨g, 8, none⟩ = some a8 := by
 subst e
 exact ⟨h.cell 0, h.cell 1, h.cell 2, h.cell 3, h.cell 4, h.cell 5, h.cell 6, h.cell 7, h.cell 8⟩
theorem Blk.p9 {a0 a1 a2 a3 a4 a5 a6 a7 a8 : Value} (h : Blk w g t (List.toArray (a0 :: a1 :: a2 :: a3 :: a4 :: a5 :: a6 :: a7 :: a8 :: r))) : w.cell? ⟨g, 0, none⟩ = some a0 ∧ w.cell? ⟨g, 1, none⟩ = some a1 ∧ w.cell? ⟨g, 2, none⟩ = some a2 ∧ w.cell? ⟨g, 3, none⟩ = some a3 ∧ w.cell? ⟨g, 4, none⟩ = some a4 ∧ w.cell? ⟨g, 5, none⟩ = some a5 ∧ w.cell? ⟨g, 6, none⟩ = some a6 ∧ w.cell? ⟨g, 7, none⟩ = some a7 ∧ w.cell? ⟨g, 8, none⟩ = some a8 := ⟨h.cell 0, h.cell 1, h.cell 2, h.cell 3, h.cell 4, h.cell 5, h.cell 6, h.cell 7, h.cell 8⟩
theorem Blk.p10 {a0 a1 a2 a3 a4 a5 a6 a7 a8 a9 : Value} (h : Blk w g t (List.toArray (a0 :: a1 :: a2 :: a3 :: a4 :: a5 :: a6 :: a7 :: a8 :: a9 :: r))) : w.cell? ⟨g, 0, none⟩ = some a0 ∧ w.cell? ⟨g, 1, none⟩ = some a1 ∧ w.cell? ⟨g, 2, none⟩ = some a2 ∧ w.cell? ⟨g, 3, none⟩ = some a3 ∧ w.cell? ⟨g, 4, none⟩ = some a4 ∧ w.cell? ⟨g, 5, none⟩ = some a5 ∧ w.cell? ⟨g, 6, none⟩ = some a6 ∧ w.cell? ⟨g, 7, none⟩ = some a7 ∧ w.cell? ⟨g, 8, none⟩ = some a8 ∧ w.cell? ⟨g, 9, none⟩ = some a9 := ⟨h.cell 0, h.cell 1, h.cell 2, h.cell 3, h.cell 4, h.cell 5, h.cell 6, h.cell 7, h.cell 8, h.cell 9⟩
theorem Blk.v12 (h : Blk w g t cs) (a0 a1 a2 a3 a4 a5 a6 a7 a8 a9 a10 a11 : Value) (e : cs = List.toArray (a0 :: a1 :: a2 :: a3 :: a4 :: a5 :: a6 :: a7 :: a8 :: a9 :: a10 :: a11 :: r)) : w.cell? ⟨g, 0, none⟩ = some a0 ∧ w.cell? ⟨g, 1, none⟩ = some a1 ∧ w.cell? ⟨g, 2, none⟩ = some a2 ∧ w.cell? ⟨g, 3, none⟩ = some a3 ∧ w.cell? ⟨g, 4, none⟩ = some a4 ∧ w.cell? ⟨g, 5, none⟩ = some a5 ∧ w.cell? ⟨g, 6, none⟩ = some a6 ∧ w.cell? ⟨g, 7, none⟩ = some a7 ∧ w.cell? ⟨g, 8, none⟩ = some a8 ∧ w.cell? ⟨g, 9, none⟩ = some a9 ∧ w.cell? ⟨g, 10, none⟩ = some a10 ∧ w.cell? ⟨g, 11, none⟩ = some a11 := by
 subst e
 exact ⟨h.cell 0, h.cell 1, h.cell 2, h.cell 3, h.cell 4, h.cell 5, h.cell 6, h.cell 7, h.cell 8, h.cell 9, h.cell 10, h.cell 11⟩
end
end

section
def cut (a n : Nat) : Nat := a / 2 ^ (32 - n) * 2 ^ (32 - n)
structure Pn where
 a : Nat
 l : Nat
deriving DecidableEq
def Pn.ok (p : Pn) : Prop := p.a < 4294967296 ∧ p.l ≤ 32 ∧ cut p.a p.l = p.a
def Pn.holds (p q : Pn) : Prop := p.l ≤ q.l ∧ cut q.a p.l = p.a
instance (p q : Pn) : Decidable (p.holds q) := inferInstanceAs (Decidable (_ ∧ _))
def Pn.lt (p q : Pn) : Prop := p.a < q.a ∨ (p.a = q.a ∧ p.l < q.l)
instance (p q : Pn) : Decidable (p.lt q) := inferInstanceAs (Decidable (_ ∨ _))
theorem vln (a n : Nat) : cut a n ≤ a := Nat.div_mul_le_self _ _
def Pn.take (p : Pn) (n : Nat) : Pn := ⟨cut p.a n, n⟩
def maskN (n : Nat) : Nat := 4294967296 - 2 ^ (32 - n)
theorem vce (n : Nat) : 2 ^ (32 - n) ≤ 4294967296 := by
 have := Nat.pow_le_pow_right (show 0 < 2 by omega) (show 32 - n ≤ 32 by omega)
 simpa using this
theorem ver {a n : Nat} (ha : a < 4294967296) (hn : n ≤ 32) : a &&& (4294967295 - maskN n) = a - cut a n := by
 have hm : 4294967295 - maskN n = 2 ^ (32 - n) - 1 := by have := vce n; have := Nat.two_pow_pos (32 - n); unfold maskN; omega
 rw [hm, Nat.and_two_pow_sub_one_eq_mod]
 unfold cut
 have := Nat.div_add_mod a (2 ^ (32 - n))
 rw [Nat.mul_comm] at this
 omega
end

section
open Go.RowKit
theorem vjD {n : Nat} (h : n ≤ 32) : (4294967295 : Int) * 2 ^ (32 - n) % 4294967296 = (maskN n : Int) := by
 have h1 := vce n
 have h2 : 0 < 2 ^ (32 - n) := Nat.two_pow_pos _
 unfold maskN
 generalize hs : 2 ^ (32 - n) = s at *
 have hc : ((2 : Int) ^ (32 - n)) = (s : Int) := by rw [← hs]; simp
 rw [hc]
 omega
theorem vfp (a b : Nat) (ha : a < 4294967296) (hb : b < 4294967296) : bits .andNot .u32 (a : Int) (b : Int) = ((a &&& (4294967295 - b) : Nat) : Int) := by
 have hx : a &&& (4294967295 - b) < 2 ^ 32 := Nat.and_lt_two_pow _ (by omega)
 have h1 : (BitVec.ofInt 32 (a : Int)).toNat = a := by
  rw [BitVec.ofInt_natCast, BitVec.toNat_ofNat]; exact Nat.mod_eq_of_lt (by omega)
 have h2 : (BitVec.ofInt 32 (b : Int)).toNat = b := by
  rw [BitVec.ofInt_natCast, BitVec.toNat_ofNat]; exact Nat.mod_eq_of_lt (by omega)
 show IntKind.u32.wrap ((BitVec.ofInt 32 (a : Int) &&& ~~~ BitVec.ofInt 32 (b : Int)).toNat : Int) = _
 rw [BitVec.toNat_and, BitVec.toNat_not, h1, h2]
 show ((a &&& (2 ^ 32 - 1 - b) : Nat) : Int) % 4294967296 = _
 rw [show (2 ^ 32 - 1 - b) = 4294967295 - b by omega]
 omega
theorem vbv (n : Nat) : maskN n < 4294967296 := by have := Nat.two_pow_pos (32 - n); unfold maskN; omega
theorem vdn (n : Nat) (w : World) (h1 : n ≤ 32) :
  Calls Tryz.prog 293 #[.int .i64 n] w fun e w' => e = .returned (.int .u32 (maskN n)) ∧ w = w' := by
 have H := Lib.hid (vjD h1)
 go_enter Tryz.func293, Tryz.ntmps293
 go_wp2
 go_ret
 exact ⟨by rw [← H.out]; rfl, rfl⟩
structure PI where
 a : Nat
 l : Int
def PI.enc (p : PI) : List Value := [.int .u32 p.a, .int .i64 p.l]
def PI.okB (p : PI) : Bool := decide (0 ≤ p.l ∧ p.l ≤ 32 ∧ cut p.a p.l.toNat = p.a)
theorem PI.len (p : PI) : p.enc.length = 2 := rfl
def PI.pn (p : PI) : Pn := ⟨p.a, p.l.toNat⟩
theorem pn_ok {p : PI} (h : p.okB = true) (ha : p.a < 4294967296) : p.pn.ok ∧ p.l = (p.pn.l : Int) := by
 have := of_decide_eq_true h
 exact ⟨⟨ha, by simp [PI.pn]; omega, this.2.2⟩, by simp [PI.pn]; omega⟩
theorem pi_at {w : World} {A : Option Addr} {ps : List PI} (h : Rd w 2 PI.enc A ps) {k : Nat} (hk : k < ps.length) :
  ∃ b off : Nat, A = some ⟨b, off, none⟩ ∧ w.cell? ⟨b, off + k * 2, none⟩ = some (.int .u32 ps[k].a) ∧ w.cell? ⟨b, off + k * 2 + 1, none⟩ = some (.int .i64 ps[k].l) := by
 obtain ⟨b, off, e, hc⟩ := h k hk
 exact ⟨b, off, e, hc 0 _ rfl, hc 1 _ rfl⟩
theorem vbX {a n : Nat} (ha : a < 4294967296) (hn : n ≤ 32) : (bits .andNot .u32 (a : Int) (maskN n : Int) != 0) = !decide (cut a n = a) := by
 rw [vfp a _ ha (vbv n), ver ha hn]
 have := vln a n
 by_cases h : cut a n = a
 ·simp [h]
 ·simp [h]; omega
set_option maxRecDepth 100000 in
theorem vgn (A : Option Addr) (c : Nat) (ps : List PI) (w : World) (hR : Rd w 2 PI.enc A ps) (hn : ps.length ≤ 1000000) (ha : ∀ k (hk : k < ps.length), ps[k].a < 4294967296) :
  Calls Tryz.prog 294 #[.slice A ps.length c] w fun e w' => e = .returned (.bool (ps.all PI.okB)) ∧ Kp w w' := by
 have Ha := Lib.hid ha; clear ha
 go_enter Tryz.func294, Tryz.ntmps294
 go_wp2_with fail
 go_loopw [7] (fun i wr => ∃ k : Nat, k ≤ ps.length ∧ i = .int .i64 k ∧ Hid (∀ j (hj : j < ps.length), j < k → ps[j].okB = true) ∧ Kp w wr) (fun i _ => ps.length - (intOf i).toNat)
 case atStart => exact ⟨0, Nat.zero_le _, rfl, fun _ _ h => absurd h (by omega), Kp.refl _⟩
 case round =>
  obtain ⟨k, hk, rfl, hall, hK⟩ := hrel
  by_cases hlt : k < ps.length
  ·obtain ⟨b, off, rfl, c0, c1⟩ := pi_at (hR.keep hK) hlt
   have hak := Ha.out k hlt
   have hno : ps[k].okB = false → ps.all PI.okB = false := fun h => by rw [List.all_eq_false]; exact ⟨ps[k], List.getElem_mem hlt, by simp [h]⟩
   have Hno := Lib.hid hno; clear hno
   obtain ⟨W, hW, kW, B0⟩ : ∃ W, wr.alloc (.cells #[.int .u32 ps[k].a, .int .i64 ps[k].l] 39) = W ∧ Kp w W ∧ Blk W wr.heap.size 39 #[.int .u32 ps[k].a, .int .i64 ps[k].l] := ⟨_, rfl, hK.alloc _, Blk.new wr _ _⟩
   obtain ⟨p0, p1⟩ := Blk.v2 B0 (.int .u32 ps[k].a) (.int .i64 ps[k].l) rfl
   by_cases h0 : ps[k].l < 0
   ·have H := Lib.hid (Hno.out (by simp [PI.okB]; omega))
    have d0 : decide (ps[k].l < 0) = true := by simpa using h0
    clear h0
    go_wp2_with fail
    go_quiet (fail)
    go_wp2_with fail
    go_ret
    exact ⟨by rw [H.out]; rfl, kW.drewN _⟩
   ·have d0 : decide (ps[k].l < 0) = false := by simpa using h0
    by_cases h1 : 32 < ps[k].l
    ·have H := Lib.hid (Hno.out (by simp [PI.okB]; omega))
     have d1 : decide (32 < ps[k].l) = true := by simpa using h1
     clear h0 h1
     go_wp2_with fail
     go_quiet (fail)
     go_wp2_with fail
     go_ret
     exact ⟨by rw [H.out]; rfl, kW.drewN _⟩
    ·have d1 : decide (32 < ps[k].l) = false := by simpa using h1
     obtain ⟨n, hnl⟩ := Int.eq_ofNat_of_zero_le (show 0 ≤ ps[k].l by omega)
     have hn32 : n ≤ 32 := by omega
     have hz := vbX hak hn32
     have Hl := Lib.hid hnl
     rw [hnl] at c1 p1 d0 d1 hW
     clear h0 h1 hnl
     by_cases hc : cut ps[k].a n = ps[k].a
     ·have hok := Lib.hid (show ps[k].okB = true by simp only [PI.okB, Hl.out, Int.toNat_natCast, decide_eq_true_eq]; exact ⟨by omega, by omega, hc⟩)
      rw [show (!decide (cut ps[k].a n = ps[k].a)) = false by simp [hc]] at hz
      clear hc
      go_wp2_with fail
      go_region_held3 (fun w' => w'.cell? ⟨wr.heap.size, 0, none⟩ = some (.int .u32 ps[k].a) ∧ w'.cell? ⟨wr.heap.size, 1, none⟩ = some (.int .i64 n)) (go_keep)
       (first | (go_at_call 293; refine (vdn _ _ hn32).mono ?_; rintro e w' ⟨rfl, rfl⟩))
      go_wp2_with fail
      go_roundw
      case rel =>
       refine ⟨k + 1, by omega, by go_num, fun j hj hjk => ?_, kW.drew⟩
       by_cases hj' : j < k
       ·exact hall.out j hj hj'
       ·obtain rfl : j = k := by omega
        exact hok.out
      case measure => simp [intOf]; omega
     ·have H := Lib.hid (Hno.out (by simp only [PI.okB, Hl.out, Int.toNat_natCast, decide_eq_false_iff_not]; rintro ⟨_, _, h⟩; exact hc h))
      rw [show (!decide (cut ps[k].a n = ps[k].a)) = true by simp [hc]] at hz
      clear hc
      go_wp2_with fail
      go_region_held3 (fun w' => w'.cell? ⟨wr.heap.size, 0, none⟩ = some (.int .u32 ps[k].a) ∧ w'.cell? ⟨wr.heap.size, 1, none⟩ = some (.int .i64 n)) (go_keep)
       (first | (go_at_call 293; refine (vdn _ _ hn32).mono ?_; rintro e w' ⟨rfl, rfl⟩))
      go_wp2_with fail
      go_ret
      exact ⟨by rw [H.out]; rfl, kW.drew⟩
  ·obtain rfl : k = ps.length := by omega
   have H := Lib.hid (show ps.all PI.okB = true by
    rw [List.all_eq_true]; intro x hx
    obtain ⟨j, hj, rfl⟩ := List.getElem_of_mem hx
    exact hall.out j hj hj)
   clear hall
   go_wp2_with fail
   go_ret
   exact ⟨by rw [H.out]; rfl, hK⟩
def checkP (p : PI) : Int := if p.okB then 0 else 2
set_option maxRecDepth 100000 in
theorem vaS (p : PI) (w : World) (ha : p.a < 4294967296) :
  Calls Tryz.prog 230 #[.agg #[.int .u32 p.a, .int .i64 p.l]] w fun e w' => e = .returned (.int .i64 (checkP p)) ∧ Kp w w' := by
 have hrd : Rd ((w.alloc (.cells #[.int .u32 p.a, .int .i64 p.l] 39)).alloc (.cells #[.int .u32 p.a, .int .i64 p.l] 39)) 2 PI.enc (some ⟨w.heap.size + 1, 0, none⟩) [p] := Rd.of_blk (Blk.new1 w _ _ _) (by omega) PI.len (by unfold maxLen; simp) rfl
 have Hrd := Lib.hid hrd; clear hrd
 go_enter Tryz.func230, Tryz.ntmps230
 go_wp2_with fail
 refine vaa 0 rfl ?_
 go_wp2_with fail
 refine (vgn _ 1 [p] _ Hrd.out (by simp) (fun k hk => by simp at hk; subst hk; exact ha)).mono ?_
 rintro e w1 ⟨rfl, hK1⟩
 have hk1 : Kp w w1 := (((Kp.refl _).alloc _).alloc _).trans hK1
 rw [show [p].all PI.okB = p.okB by simp]
 cases hok : p.okB with
 | true =>
  have H := Lib.hid (show checkP p = 0 by simp [checkP, hok]); clear hok
  go_wp2_with fail
  refine vam ?_
  go_ret
  exact ⟨by rw [H.out]; rfl, hk1⟩
 | false =>
  have H := Lib.hid (show checkP p = 2 by simp [checkP, hok]); clear hok
  go_wp2_with fail
  go_step3
  refine ⟨rfl, ?_⟩
  go_wp2_with fail
  refine vbJ ?_
  go_ret
  exact ⟨by rw [H.out]; rfl, hk1⟩
end

section
theorem vdo (fn : Fn) (first cap : Array Value) (w : World) : (Instr.makeFunc fn first cap).run Tryz.prog w = .ok (.func fn first cap) w := rfl
end

section
open Go.RowKit
def kindAB : Nat → Nat → Bool
 | 0, a => decide (a = 0)
 | 1, a => decide (a / 16777216 = 0)
 | 2, a => decide (a / 16777216 = 127)
 | 3, a => decide (224 ≤ a / 16777216) && decide (a / 16777216 ≤ 239)
 | 4, a => decide (240 ≤ a / 16777216)
 | _, _ => true
def kindAd (a : Nat) : Nat := if a = 0 then 1 else if a / 16777216 = 0 then 2 else if a / 16777216 = 127 then 3 else if 224 ≤ a / 16777216 ∧ a / 16777216 ≤ 239 then 4 else if 240 ≤ a / 16777216 then 5 else 6
theorem vjE {a k : Nat} (hk : k < 6) (h : ∀ j, j < k → kindAB j a = false) (h1 : kindAB k a = true) : kindAd a = k + 1 := by
 have hk2 : k = 0 ∨ k = 1 ∨ k = 2 ∨ k = 3 ∨ k = 4 ∨ k = 5 := by omega
 unfold kindAd
 rcases hk2 with rfl | rfl | rfl | rfl | rfl | rfl
 ·simp [kindAB] at h1; simp [h1]
 all_goals
  have g0 := h 0 (by omega)
  simp only [kindAB, decide_eq_false_iff_not] at g0
  rw [if_neg g0]
 ·simp [kindAB] at h1; rw [if_pos (by omega)]
 all_goals
  have g1 := h 1 (by omega)
  simp only [kindAB, decide_eq_false_iff_not] at g1
  rw [if_neg g1]
 ·simp [kindAB] at h1; rw [if_pos h1]
 all_goals
  have g2 := h 2 (by omega)
  simp only [kindAB, decide_eq_false_iff_not] at g2
  rw [if_neg g2]
 ·simp [kindAB] at h1; rw [if_pos h1]
 all_goals
  have g3 := h 3 (by omega)
  simp [kindAB] at g3
  rw [if_neg (by omega)]
 ·simp [kindAB] at h1; rw [if_pos h1]
 ·have g4 := h 4 (by omega)
  simp [kindAB] at g4
  rw [if_neg (by omega)]
theorem idx4 (x y z u : Value) (w : World) : (Instr.index 437 (.agg #[x, y, z, u]) (.int .i64 0)).run Tryz.prog w = .ok x w := by kernel_rfl
def PartsPost (m : Nat) (w : World) (e : Ending) (w' : World) : Prop := ∃ y z u : Int, e = .returned (.agg #[.int .u8 m, .int .u8 y, .int .u8 z, .int .u8 u]) ∧ Kp w w'
set_option maxRecDepth 100000 in
theorem vgo (a m : Nat) (w : World) (ha : a < 4294967296) (hm : a / 16777216 = m) : Calls Tryz.prog 317 #[.int .u32 a] w (PartsPost m w) := by
 have Hm := Lib.hid hm; clear hm
 go_enter Tryz.func317, Tryz.ntmps317
 go_wp2_with fail
 all_goals first
  | omega
  | exact bodyPost_ret (v := .agg #[.int .u8 ((a : Int) / 16777216), .int .u8 ((a : Int) / 65536 % 256), .int .u8 ((a : Int) / 256 % 256), .int .u8 ((a : Int) % 256)]) (by simp [results, Tryz.results317, go_sem]) rfl ⟨_, _, _, by rw [← Hm.out]; rfl, (Kp.refl _).alloc _⟩
set_option maxRecDepth 100000 in
theorem vaI (a m : Nat) (w : World) (ha : a < 4294967296) (hm : a / 16777216 = m) :
  Calls Tryz.prog 316 #[.int .u32 a] w fun e w' => e = .returned (.int .u8 m) ∧ Kp w w' := by
 have h4 := idx4
 have Hm := Lib.hid hm; clear hm
 go_enter Tryz.func316, Tryz.ntmps316
 go_wp2_with fail
 refine (vgo a m _ ha Hm.out).mono ?_
 rintro e w' ⟨y, z, u, rfl, hK⟩
 go_wp2_with fail
 go_ret
 exact ⟨rfl, hK⟩
theorem vjF (a : Nat) (w : World) : Calls Tryz.prog 318 #[.int .u32 a] w fun e w' => e = .returned (.bool (kindAB 0 a)) ∧ Kp w w' := by
 have H := Lib.hid (show kindAB 0 a = ((a : Int) == 0) by simp only [kindAB]; rw [Bool.eq_iff_iff]; simp)
 go_enter Tryz.func318, Tryz.ntmps318
 go_wp2_with fail
 go_ret
 exact ⟨by rw [H.out]; rfl, Kp.refl _⟩
theorem vjG (a : Nat) (w : World) : Calls Tryz.prog 323 #[.int .u32 a] w fun e w' => e = .returned (.bool (kindAB 5 a)) ∧ Kp w w' := by
 go_enter Tryz.func323, Tryz.ntmps323
 go_wp2_with fail
 go_ret
 exact ⟨rfl, Kp.refl _⟩
set_option maxRecDepth 100000 in
theorem vjH (a c : Nat) (w : World) (ha : a < 4294967296) (hc : Blk w c 439 #[.func (.func 316) #[] #[]]) : Calls Tryz.prog 319 #[.int .u32 a, .pointer (some ⟨c, 0, none⟩)] w fun e w' => e = .returned (.bool (kindAB 1 a)) ∧ Kp w w' := by
 have c0 : w.cell? ⟨c, 0, none⟩ = some (.func (.func 316) #[] #[]) := hc.cell 0
 obtain ⟨m, hm⟩ : ∃ m, a / 16777216 = m := ⟨_, rfl⟩
 have H := Lib.hid (show kindAB 1 a = ((m : Int) == 0) by simp only [kindAB, hm]; rw [Bool.eq_iff_iff]; simp <;> omega)
 have Hm := Lib.hid hm; clear hm
 go_enter Tryz.func319, Tryz.ntmps319
 go_wp2_with fail
 refine (vaI a m _ ha Hm.out).mono ?_
 rintro e w' ⟨rfl, hK⟩
 go_wp2_with fail
 go_ret
 exact ⟨by rw [H.out]; rfl, hK⟩
set_option maxRecDepth 100000 in
theorem vjI (a c : Nat) (w : World) (ha : a < 4294967296) (hc : Blk w c 439 #[.func (.func 316) #[] #[]]) : Calls Tryz.prog 320 #[.int .u32 a, .pointer (some ⟨c, 0, none⟩)] w fun e w' => e = .returned (.bool (kindAB 2 a)) ∧ Kp w w' := by
 have c0 : w.cell? ⟨c, 0, none⟩ = some (.func (.func 316) #[] #[]) := hc.cell 0
 obtain ⟨m, hm⟩ : ∃ m, a / 16777216 = m := ⟨_, rfl⟩
 have H := Lib.hid (show kindAB 2 a = ((m : Int) == 127) by simp only [kindAB, hm]; rw [Bool.eq_iff_iff]; simp <;> omega)
 have Hm := Lib.hid hm; clear hm
 go_enter Tryz.func320, Tryz.ntmps320
 go_wp2_with fail
 refine (vaI a m _ ha Hm.out).mono ?_
 rintro e w' ⟨rfl, hK⟩
 go_wp2_with fail
 go_ret
 exact ⟨by rw [H.out]; rfl, hK⟩
set_option maxRecDepth 100000 in
theorem vjJ (a c : Nat) (w : World) (ha : a < 4294967296) (hc : Blk w c 439 #[.func (.func 316) #[] #[]]) : Calls Tryz.prog 322 #[.int .u32 a, .pointer (some ⟨c, 0, none⟩)] w fun e w' => e = .returned (.bool (kindAB 4 a)) ∧ Kp w w' := by
 have c0 : w.cell? ⟨c, 0, none⟩ = some (.func (.func 316) #[] #[]) := hc.cell 0
 obtain ⟨m, hm⟩ : ∃ m, a / 16777216 = m := ⟨_, rfl⟩
 have H := Lib.hid (show kindAB 4 a = decide ((240 : Int) ≤ (m : Int)) by simp only [kindAB, hm]; rw [Bool.eq_iff_iff]; simp <;> omega)
 have Hm := Lib.hid hm; clear hm
 go_enter Tryz.func322, Tryz.ntmps322
 go_wp2_with fail
 refine (vaI a m _ ha Hm.out).mono ?_
 rintro e w' ⟨rfl, hK⟩
 go_wp2_with fail
 go_ret
 exact ⟨by rw [H.out]; rfl, hK⟩
set_option maxRecDepth 100000 in
theorem vjK (a c : Nat) (w : World) (ha : a < 4294967296) (hc : Blk w c 439 #[.func (.func 316) #[] #[]]) : Calls Tryz.prog 321 #[.int .u32 a, .pointer (some ⟨c, 0, none⟩)] w fun e w' => e = .returned (.bool (kindAB 3 a)) ∧ Kp w w' := by
 have c0 : w.cell? ⟨c, 0, none⟩ = some (.func (.func 316) #[] #[]) := hc.cell 0
 have Hc := Lib.hid hc; clear hc
 obtain ⟨m, hm⟩ : ∃ m, a / 16777216 = m := ⟨_, rfl⟩
 have H := Lib.hid (show kindAB 3 a = (decide (224 ≤ m) && decide (m ≤ 239)) by simp only [kindAB, hm])
 have Hm := Lib.hid hm; clear hm
 by_cases h : 224 ≤ m
 ·have hd : decide ((224 : Int) ≤ (m : Int)) = true := by simp; omega
  have hd2 : decide (224 ≤ m) = true := by simpa using h
  have hk := Lib.hid (show kindAB 3 a = decide ((m : Int) ≤ 239) by rw [H.out, hd2, Bool.true_and, Bool.eq_iff_iff]; simp; omega)
  have Hh := Lib.hid h; clear h
  go_enter Tryz.func321, Tryz.ntmps321
  go_wp2_with fail
  refine (vaI a m _ ha Hm.out).mono ?_
  rintro e w1 ⟨rfl, hK⟩
  have c1 : w1.cell? ⟨c, 0, none⟩ = some (.func (.func 316) #[] #[]) := hK.cell c0
  go_wp2_with fail
  refine (vaI a m _ ha Hm.out).mono ?_
  rintro e w2 ⟨rfl, hK2⟩
  go_wp2_with fail
  go_ret
  exact ⟨by rw [hk.out]; rfl, hK.trans hK2⟩
 ·have hd : decide ((224 : Int) ≤ (m : Int)) = false := by simp; omega
  have hd2 : decide (224 ≤ m) = false := by simpa using h
  have hk := Lib.hid (show kindAB 3 a = false by rw [H.out, hd2, Bool.false_and])
  have Hh := Lib.hid h; clear h
  go_enter Tryz.func321, Tryz.ntmps321
  go_wp2_with fail
  refine (vaI a m _ ha Hm.out).mono ?_
  rintro e w1 ⟨rfl, hK⟩
  go_wp2_with fail
  go_ret
  exact ⟨by rw [hk.out]; rfl, hK⟩
def kindCells (c : Nat) : Array Value := #[.int .i64 1, .func (.func 318) #[] #[], .int .i64 2, .func (.func 319) #[] #[.pointer (some ⟨c, 0, none⟩)], .int .i64 3, .func (.func 320) #[] #[.pointer (some ⟨c, 0, none⟩)], .int .i64 4, .func (.func 321) #[] #[.pointer (some ⟨c, 0, none⟩)], .int .i64 5, .func (.func 322) #[] #[.pointer (some ⟨c, 0, none⟩)], .int .i64 6, .func (.func 323) #[] #[]]
theorem vdp (w : World) : Calls Tryz.prog 299 #[] w fun e w' => e = .returned (.slice (some ⟨w.heap.size + 1, 0, none⟩) 6 6) ∧ Blk w' w.heap.size 439 #[.func (.func 316) #[] #[]] ∧ Blk w' (w.heap.size + 1) 417 (kindCells w.heap.size) ∧ Kp w w' := by
 have hmf := vdo
 go_enter Tryz.func299, Tryz.ntmps299
 go_wp2_with fail
 go_ret
 exact ⟨rfl, (Blk.new w _ _).alloc _, Blk.new1 w _ _ _, ((Kp.refl _).alloc _).alloc _⟩
set_option maxRecDepth 100000 in
theorem vcR (a : Nat) (w : World) (ha : a < 4294967296) : Calls Tryz.prog 257 #[.int .u32 a] w fun e w' => e = .returned (.int .i64 (kindAd a)) ∧ Kp w w' := by
 have Hat := Lib.hid (fun k (hk : k < 6) => vjE (a := a) hk)
 go_enter Tryz.func257, Tryz.ntmps257
 go_wp2_with fail
 refine (vdp _).mono ?_
 rintro e w1 ⟨rfl, hC, hR, hK1⟩
 go_wp2_with fail
 go_loopw [7] (fun i wr => ∃ k : Nat, k ≤ 5 ∧ i = .int .i64 k ∧ Hid (∀ j, j < k → kindAB j a = false) ∧ Kp w1 wr) (fun i _ => 6 - (intOf i).toNat)
 case atStart => exact ⟨0, by omega, rfl, fun _ h => absurd h (by omega), Kp.refl _⟩
 case round =>
  obtain ⟨k, hk, rfl, hall, hK⟩ := hrel
  have C := hC.keep hK
  have R := hR.keep hK
  have kw := hK1.trans hK
  have hk2 : k = 0 ∨ k = 1 ∨ k = 2 ∨ k = 3 ∨ k = 4 ∨ k = 5 := by omega
  rcases hk2 with rfl | rfl | rfl | rfl | rfl | rfl
  ·obtain ⟨c0, c1⟩ := Blk.v2 R (.int .i64 1) (.func (.func 318) #[] #[]) rfl
   have B := Blk.new wr 417 #[.int .i64 1, .func (.func 318) #[] #[]]
   go_wp2_with fail
   refine (vjF a _).mono ?_
   rintro e w2 ⟨rfl, hK2⟩
   have B2 := B.keep hK2
   have k2 : Kp w1 w2 := (hK.alloc _).trans hK2
   have d0 : w2.cell? ⟨wr.heap.size, 0, none⟩ = some (.int .i64 1) := B2.cell 0
   cases hb : kindAB 0 a with
   | true =>
    have H := Lib.hid (Hat.out 0 (by omega) hall.out hb)
    clear hb
    go_wp2_with fail
    go_ret
    exact ⟨by rw [H.out]; rfl, hK1.trans k2⟩
   | false =>
    have Hb := Lib.hid hb; clear hb
    go_wp2_with fail
    go_roundw
    case rel =>
     refine ⟨1, by omega, by go_num, fun j hj => ?_, k2⟩
     by_cases e : j = 0
     ·subst e; exact Hb.out
     ·exact hall.out j (by omega)
    case measure => simp [intOf] <;> omega
  ·obtain ⟨-, -, c0, c1⟩ := Blk.v4 R _ _ (.int .i64 2) (.func (.func 319) #[] #[.pointer (some ⟨w.heap.size, 0, none⟩)]) rfl
   have B := Blk.new wr 417 #[.int .i64 2, .func (.func 319) #[] #[.pointer (some ⟨w.heap.size, 0, none⟩)]]
   go_wp2_with fail
   refine (vjH a w.heap.size _ ha (C.alloc _)).mono ?_
   rintro e w2 ⟨rfl, hK2⟩
   have B2 := B.keep hK2
   have k2 : Kp w1 w2 := (hK.alloc _).trans hK2
   have d0 : w2.cell? ⟨wr.heap.size, 0, none⟩ = some (.int .i64 2) := B2.cell 0
   cases hb : kindAB 1 a with
   | true =>
    have H := Lib.hid (Hat.out 1 (by omega) hall.out hb)
    clear hb
    go_wp2_with fail
    go_ret
    exact ⟨by rw [H.out]; rfl, hK1.trans k2⟩
   | false =>
    have Hb := Lib.hid hb; clear hb
    go_wp2_with fail
    go_roundw
    case rel =>
     refine ⟨2, by omega, by go_num, fun j hj => ?_, k2⟩
     by_cases e : j = 1
     ·subst e; exact Hb.out
     ·exact hall.out j (by omega)
    case measure => simp [intOf] <;> omega
  ·obtain ⟨-, -, -, -, c0, c1⟩ := Blk.v6 R _ _ _ _ (.int .i64 3) (.func (.func 320) #[] #[.pointer (some ⟨w.heap.size, 0, none⟩)]) rfl
   have B := Blk.new wr 417 #[.int .i64 3, .func (.func 320) #[] #[.pointer (some ⟨w.heap.size, 0, none⟩)]]
   go_wp2_with fail
   refine (vjI a w.heap.size _ ha (C.alloc _)).mono ?_
   rintro e w2 ⟨rfl, hK2⟩
   have B2 := B.keep hK2
   have k2 : Kp w1 w2 := (hK.alloc _).trans hK2
   have d0 : w2.cell? ⟨wr.heap.size, 0, none⟩ = some (.int .i64 3) := B2.cell 0
   cases hb : kindAB 2 a with
   | true =>
    have H := Lib.hid (Hat.out 2 (by omega) hall.out hb)
    clear hb
    go_wp2_with fail
    go_ret
    exact ⟨by rw [H.out]; rfl, hK1.trans k2⟩
   | false =>
    have Hb := Lib.hid hb; clear hb
    go_wp2_with fail
    go_roundw
    case rel =>
     refine ⟨3, by omega, by go_num, fun j hj => ?_, k2⟩
     by_cases e : j = 2
     ·subst e; exact Hb.out
     ·exact hall.out j (by omega)
    case measure => simp [intOf] <;> omega
  ·obtain ⟨-, -, -, -, -, -, c0, c1⟩ := Blk.v8 R _ _ _ _ _ _ (.int .i64 4) (.func (.func 321) #[] #[.pointer (some ⟨w.heap.size, 0, none⟩)]) rfl
   have B := Blk.new wr 417 #[.int .i64 4, .func (.func 321) #[] #[.pointer (some ⟨w.heap.size, 0, none⟩)]]
   go_wp2_with fail
   refine (vjK a w.heap.size _ ha (C.alloc _)).mono ?_
   rintro e w2 ⟨rfl, hK2⟩
   have B2 := B.keep hK2
   have k2 : Kp w1 w2 := (hK.alloc _).trans hK2
   have d0 : w2.cell? ⟨wr.heap.size, 0, none⟩ = some (.int .i64 4) := B2.cell 0
   cases hb : kindAB 3 a with
   | true =>
    have H := Lib.hid (Hat.out 3 (by omega) hall.out hb)
    clear hb
    go_wp2_with fail
    go_ret
    exact ⟨by rw [H.out]; rfl, hK1.trans k2⟩
   | false =>
    have Hb := Lib.hid hb; clear hb
    go_wp2_with fail
    go_roundw
    case rel =>
     refine ⟨4, by omega, by go_num, fun j hj => ?_, k2⟩
     by_cases e : j = 3
     ·subst e; exact Hb.out
     ·exact hall.out j (by omega)
    case measure => simp [intOf] <;> omega
  ·obtain ⟨-, -, -, -, -, -, -, -, c0, c1⟩ := Blk.p10 R
   have B := Blk.new wr 417 #[.int .i64 5, .func (.func 322) #[] #[.pointer (some ⟨w.heap.size, 0, none⟩)]]
   go_wp2_with fail
   refine (vjJ a w.heap.size _ ha (C.alloc _)).mono ?_
   rintro e w2 ⟨rfl, hK2⟩
   have B2 := B.keep hK2
   have k2 : Kp w1 w2 := (hK.alloc _).trans hK2
   have d0 : w2.cell? ⟨wr.heap.size, 0, none⟩ = some (.int .i64 5) := B2.cell 0
   cases hb : kindAB 4 a with
   | true =>
    have H := Lib.hid (Hat.out 4 (by omega) hall.out hb)
    clear hb
    go_wp2_with fail
    go_ret
    exact ⟨by rw [H.out]; rfl, hK1.trans k2⟩
   | false =>
    have Hb := Lib.hid hb; clear hb
    go_wp2_with fail
    go_roundw
    case rel =>
     refine ⟨5, by omega, by go_num, fun j hj => ?_, k2⟩
     by_cases e : j = 4
     ·subst e; exact Hb.out
     ·exact hall.out j (by omega)
    case measure => simp [intOf] <;> omega
  ·obtain ⟨-, -, -, -, -, -, -, -, -, -, c0, c1⟩ := Blk.v12 R _ _ _ _ _ _ _ _ _ _ (.int .i64 6) (.func (.func 323) #[] #[]) rfl
   have B := Blk.new wr 417 #[.int .i64 6, .func (.func 323) #[] #[]]
   go_wp2_with fail
   refine (vjG a _).mono ?_
   rintro e w2 ⟨rfl, hK2⟩
   have B2 := B.keep hK2
   have k2 : Kp w1 w2 := (hK.alloc _).trans hK2
   have d0 : w2.cell? ⟨wr.heap.size, 0, none⟩ = some (.int .i64 6) := B2.cell 0
   cases hb : kindAB 5 a with
   | true =>
    have H := Lib.hid (Hat.out 5 (by omega) hall.out hb)
    clear hb
    go_wp2_with fail
    go_ret
    exact ⟨by rw [H.out]; rfl, hK1.trans k2⟩
   | false => cases hb
end

end Go.Proofs.YtgopnfacklmkaaaGreatDoor
