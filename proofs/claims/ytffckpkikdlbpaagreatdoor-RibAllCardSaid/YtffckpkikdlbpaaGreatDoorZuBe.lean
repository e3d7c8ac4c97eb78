/- Lemmas and contracts for the theorem of this claim: LfG4, LfB. -/
import Derived.Test.YtffckpkikdlbpaaGreatDoorZuBc
import Derived.Test.YtffckpkikdlbpaaGreatDoorZuBd
set_option linter.all false
set_option maxHeartbeats 16000000
namespace Go.Proofs.YtffckpkikdlbpaaGreatDoor
section
open Go.RowKit
set_option maxRecDepth 100000 in
theorem vhp (c : Cf) (A : Option Addr) (n m : Nat) (r : Rt) (h : Hd) (now : Int) (w : World) (hs : r.s = 4) (hm0 : 1 ≤ h.m) (hm1 : h.m ≤ 16) (hn0 : 0 ≤ now) (hn1 : now ≤ 4611686018426387904) (ht0 : 0 ≤ c.t2) (ht1 : c.t2 ≤ 1000000) (hu0 : 0 ≤ c.t3) (hu1 : c.t3 ≤ 1000000) :
  Calls Tryz.prog 90 #[cfV c A n m, roV r, .agg #[.int .i64 h.f, .int .u32 (h.a : Int), .int .i64 h.m], .int .i64 now] w fun e w' => e = .returned (roV (hearR c r h now)) ∧ Kp w w' := by
 have HT := Lib.hid (And.intro hn0 (And.intro hn1 (And.intro ht0 (And.intro ht1 (And.intro hu0 hu1)))))
 have e0 : (r.s == 0) = false := by simp [hs]
 have e4 : (r.s == 4) = true := by simp [hs]
 have e2 : (r.s == 2) = false := by simp [hs]
 have e3 : (r.s == 3) = false := by simp [hs]
 by_cases hc : h.m < 15
 ·have hM : min (h.m + 1) 16 = h.m + 1 := by omega
  have h16 : ¬ (16 ≤ h.m + 1) := by omega
  have hnew : newR c r h now = ⟨r.p, 2, h.m + 1, 0, h.f, h.a, now + c.t2, true⟩ := by unfold newR; rw [hM]
  by_cases hf : r.f = h.f
  ·have ef : (r.f == h.f) = true := by simp [hf]
   by_cases hx : r.x = h.a
   ·have ex : ((r.x : Int) == (h.a : Int)) = true := by simp [hx]
    have hsame : h.f = r.f ∧ h.a = r.x := ⟨hf.symm, hx.symm⟩
    have d : decide (h.m + 1 < 16) = true := decide_eq_true (by omega)
    have H := Lib.hid (show hearR c r h now = newR c r h now by unfold hearR; rw [if_neg (by omega), if_neg (by omega), if_neg (by omega), hM, if_pos (by omega)])
    rw [H.out]
    clear H
    try clear hsame
    try clear hf
    try clear hx
    try clear hs
    try clear hq
    try clear hl
    try clear hM
    rw [hnew]
    go_enter Tryz.func90, Tryz.ntmps90
    go_wp2_with fail
    refine (vae c A n m r h (h.m + 1) now _ HT.out.1 HT.out.2.1 HT.out.2.2.1 HT.out.2.2.2.1).mono ?_
    rintro e w1 ⟨rfl, K1⟩
    have B3 := (Blk.new3 w _ _ _ 48 (roC zeroR)).keep K1
    have KW := ((((Kp.refl w).alloc _).alloc _).alloc _).alloc _ |>.trans K1
    obtain ⟨g, hg⟩ : ∃ g, w.heap.size + 1 + 1 + 1 = g := ⟨_, rfl⟩
    have hgw : w.heap.size ≤ g := by omega
    rw [hg] at B3
    try rw [hg]
    clear hg K1
    have q0 := Blk.f B3 rfl
    have z0 := Blk.frozen B3
    go_wp2_with fail
    refine bodyPost_ret (vad (g := g) (R := ⟨r.p, 2, h.m + 1, 0, h.f, h.a, now + c.t2, true⟩) rfl rfl (Blk.set9 B3)) rfl ⟨rfl, Kp.set9 KW hgw⟩
   ·have ex : ((r.x : Int) == (h.a : Int)) = false := by simp; omega
    have hsame : ¬ (h.f = r.f ∧ h.a = r.x) := fun z => hx z.2.symm
    have d : decide (h.m + 1 < 16) = true := decide_eq_true (by omega)
    have H := Lib.hid (show hearR c r h now = newR c r h now by unfold hearR; rw [if_neg (by omega), if_neg (by omega), if_neg (by omega), hM, if_pos (by omega)])
    rw [H.out]
    clear H
    try clear hsame
    try clear hf
    try clear hx
    try clear hs
    try clear hq
    try clear hl
    try clear hM
    rw [hnew]
    go_enter Tryz.func90, Tryz.ntmps90
    go_wp2_with fail
    refine (vae c A n m r h (h.m + 1) now _ HT.out.1 HT.out.2.1 HT.out.2.2.1 HT.out.2.2.2.1).mono ?_
    rintro e w1 ⟨rfl, K1⟩
    have B3 := (Blk.new3 w _ _ _ 48 (roC zeroR)).keep K1
    have KW := ((((Kp.refl w).alloc _).alloc _).alloc _).alloc _ |>.trans K1
    obtain ⟨g, hg⟩ : ∃ g, w.heap.size + 1 + 1 + 1 = g := ⟨_, rfl⟩
    have hgw : w.heap.size ≤ g := by omega
    rw [hg] at B3
    try rw [hg]
    clear hg K1
    have q0 := Blk.f B3 rfl
    have z0 := Blk.frozen B3
    go_wp2_with fail
    refine bodyPost_ret (vad (g := g) (R := ⟨r.p, 2, h.m + 1, 0, h.f, h.a, now + c.t2, true⟩) rfl rfl (Blk.set9 B3)) rfl ⟨rfl, Kp.set9 KW hgw⟩
  ·have ef : (r.f == h.f) = false := by simp [hf]
   have hsame : ¬ (h.f = r.f ∧ h.a = r.x) := fun z => hf z.1.symm
   have d : decide (h.m + 1 < 16) = true := decide_eq_true (by omega)
   have H := Lib.hid (show hearR c r h now = newR c r h now by unfold hearR; rw [if_neg (by omega), if_neg (by omega), if_neg (by omega), hM, if_pos (by omega)])
   rw [H.out]
   clear H
   try clear hsame
   try clear hf
   try clear hx
   try clear hs
   try clear hq
   try clear hl
   try clear hM
   rw [hnew]
   go_enter Tryz.func90, Tryz.ntmps90
   go_wp2_with fail
   refine (vae c A n m r h (h.m + 1) now _ HT.out.1 HT.out.2.1 HT.out.2.2.1 HT.out.2.2.2.1).mono ?_
   rintro e w1 ⟨rfl, K1⟩
   have B3 := (Blk.new3 w _ _ _ 48 (roC zeroR)).keep K1
   have KW := ((((Kp.refl w).alloc _).alloc _).alloc _).alloc _ |>.trans K1
   obtain ⟨g, hg⟩ : ∃ g, w.heap.size + 1 + 1 + 1 = g := ⟨_, rfl⟩
   have hgw : w.heap.size ≤ g := by omega
   rw [hg] at B3
   try rw [hg]
   clear hg K1
   have q0 := Blk.f B3 rfl
   have z0 := Blk.frozen B3
   go_wp2_with fail
   refine bodyPost_ret (vad (g := g) (R := ⟨r.p, 2, h.m + 1, 0, h.f, h.a, now + c.t2, true⟩) rfl rfl (Blk.set9 B3)) rfl ⟨rfl, Kp.set9 KW hgw⟩
 ·have hM : min (h.m + 1) 16 = 16 := by omega
  have h16 : 16 ≤ h.m + 1 := by omega
  have hnew : newR c r h now = ⟨r.p, 2, 16, 0, h.f, h.a, now + c.t2, true⟩ := by unfold newR; rw [hM]
  by_cases hf : r.f = h.f
  ·have ef : (r.f == h.f) = true := by simp [hf]
   by_cases hx : r.x = h.a
   ·have ex : ((r.x : Int) == (h.a : Int)) = true := by simp [hx]
    have hsame : h.f = r.f ∧ h.a = r.x := ⟨hf.symm, hx.symm⟩
    have H := Lib.hid (show hearR c r h now = r by unfold hearR; rw [if_neg (by omega), if_neg (by omega), if_neg (by omega), hM, if_neg (by omega)])
    rw [H.out]
    clear H
    try clear hsame
    try clear hf
    try clear hx
    try clear hs
    try clear hq
    try clear hl
    try clear hM
    go_enter Tryz.func90, Tryz.ntmps90
    go_wp2_with fail
    refine bodyPost_ret (vad (g := w.heap.size + 1 + 1 + 1) (R := r) rfl rfl (Blk.new3 w _ _ _ _ _)) rfl ⟨rfl, ((((Kp.refl _).alloc _).alloc _).alloc _).alloc _⟩
   ·have ex : ((r.x : Int) == (h.a : Int)) = false := by simp; omega
    have hsame : ¬ (h.f = r.f ∧ h.a = r.x) := fun z => hx z.2.symm
    have H := Lib.hid (show hearR c r h now = r by unfold hearR; rw [if_neg (by omega), if_neg (by omega), if_neg (by omega), hM, if_neg (by omega)])
    rw [H.out]
    clear H
    try clear hsame
    try clear hf
    try clear hx
    try clear hs
    try clear hq
    try clear hl
    try clear hM
    go_enter Tryz.func90, Tryz.ntmps90
    go_wp2_with fail
    refine bodyPost_ret (vad (g := w.heap.size + 1 + 1 + 1) (R := r) rfl rfl (Blk.new3 w _ _ _ _ _)) rfl ⟨rfl, ((((Kp.refl _).alloc _).alloc _).alloc _).alloc _⟩
  ·have ef : (r.f == h.f) = false := by simp [hf]
   have hsame : ¬ (h.f = r.f ∧ h.a = r.x) := fun z => hf z.1.symm
   have H := Lib.hid (show hearR c r h now = r by unfold hearR; rw [if_neg (by omega), if_neg (by omega), if_neg (by omega), hM, if_neg (by omega)])
   rw [H.out]
   clear H
   try clear hsame
   try clear hf
   try clear hx
   try clear hs
   try clear hq
   try clear hl
   try clear hM
   go_enter Tryz.func90, Tryz.ntmps90
   go_wp2_with fail
   refine bodyPost_ret (vad (g := w.heap.size + 1 + 1 + 1) (R := r) rfl rfl (Blk.new3 w _ _ _ _ _)) rfl ⟨rfl, ((((Kp.refl _).alloc _).alloc _).alloc _).alloc _⟩
end

section
open Go.RowKit
theorem vfF (c : Cf) (A : Option Addr) (n m : Nat) (r : Rt) (h : Hd) (now : Int) (w : World) (hs : r.s = 0 ∨ r.s = 1 ∨ r.s = 2 ∨ r.s = 3 ∨ r.s = 4) (hm0 : 1 ≤ h.m) (hm1 : h.m ≤ 16) (hn0 : 0 ≤ now) (hn1 : now ≤ 4611686018426387904) (ht0 : 0 ≤ c.t2) (ht1 : c.t2 ≤ 1000000) (hu0 : 0 ≤ c.t3) (hu1 : c.t3 ≤ 1000000) :
  Calls Tryz.prog 90 #[cfV c A n m, roV r, .agg #[.int .i64 h.f, .int .u32 (h.a : Int), .int .i64 h.m], .int .i64 now] w fun e w' => e = .returned (roV (hearR c r h now)) ∧ Kp w w' := by
 rcases hs with hs | hs | hs | hs | hs
 ·exact vhl c A n m r h now w hs hm0 hm1 hn0 hn1 ht0 ht1 hu0 hu1
 ·exact vhm c A n m r h now w hs hm0 hm1 hn0 hn1 ht0 ht1 hu0 hu1
 ·exact vhn c A n m r h now w hs hm0 hm1 hn0 hn1 ht0 ht1 hu0 hu1
 ·exact vho c A n m r h now w hs hm0 hm1 hn0 hn1 ht0 ht1 hu0 hu1
 ·exact vhp c A n m r h now w hs hm0 hm1 hn0 hn1 ht0 ht1 hu0 hu1
end

end Go.Proofs.YtffckpkikdlbpaaGreatDoor
