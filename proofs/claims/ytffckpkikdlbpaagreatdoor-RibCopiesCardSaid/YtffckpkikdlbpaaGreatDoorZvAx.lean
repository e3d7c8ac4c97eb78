/- Lemmas and contracts for the theorem of this claim: LfG2, LfG3, LfG4, LfB. -/
import Derived.Test.YtffckpkikdlbpaaGreatDoorZvAw
set_option linter.all false
set_option maxHeartbeats 16000000
namespace Go.Proofs.YtffckpkikdlbpaaGreatDoor
section
open Go.RowKit
set_option maxRecDepth 100000 in
theorem vhj (c : Cf) (A : Option Addr) (n m : Nat) (r : Rt) (h : Hd) (now : Int) (w : World) (hs : r.s = 2) (hm0 : 1 ≤ h.m) (hm1 : h.m ≤ 16) (hn0 : 0 ≤ now) (hn1 : now ≤ 4611686018426387904) (ht0 : 0 ≤ c.t2) (ht1 : c.t2 ≤ 1000000) (hu0 : 0 ≤ c.t3) (hu1 : c.t3 ≤ 1000000) :
  Calls Tryz.prog 90 #[cfV c A n m, roV r, .agg #[.int .i64 h.f, .int .u32 (h.a : Int), .int .i64 h.m], .int .i64 now] w fun e w' => e = .returned (roV (hearR c r h now)) ∧ Kp w w' := by
 have HT := Lib.hid (And.intro hn0 (And.intro hn1 (And.intro ht0 (And.intro ht1 (And.intro hu0 hu1)))))
 have e0 : (r.s == 0) = false := by simp [hs]
 have e4 : (r.s == 4) = false := by simp [hs]
 have e2 : (r.s == 2) = true := by simp [hs]
 have e3 : (r.s == 3) = false := by simp [hs]
 by_cases hc : h.m < 15
 ·have hM : min (h.m + 1) 16 = h.m + 1 := by omega
  have h16 : ¬ (16 ≤ h.m + 1) := by omega
  have hnew : newR c r h now = ⟨r.p, 2, h.m + 1, 0, h.f, h.a, now + c.t2, true⟩ := by unfold newR; rw [hM]
  by_cases hf : r.f = h.f
  ·have ef : (r.f == h.f) = true := by simp [hf]
   by_cases hx : r.x = h.a
   ·have ex : ((r.x : Int) == (h.a : Int)) = true := by simp [hx]
    have hsame : h.f = r.f ∧ h.a = r.x := ⟨hf.symm, hx.symm⟩
    by_cases hq : h.m + 1 = r.m
    ·have d : (h.m + 1 == r.m) = true := by simp [hq]
     have H := Lib.hid (show hearR c r h now = ⟨r.p, r.s, r.m, r.l, r.f, r.x, now + c.t2, r.c⟩ by unfold hearR; rw [if_neg (by omega), if_pos hs, if_pos hsame, hM, if_pos hq, hs])
     rw [H.out]
     clear H
     try clear hsame
     try clear hf
     try clear hx
     try clear hs
     try clear hq
     try clear hl
     try clear hM
     obtain ⟨b, hb⟩ : ∃ b, w.heap.size = b := ⟨_, rfl⟩
     obtain ⟨W, hW, kW, C0, C1, C2, B3⟩ : ∃ W, (((w.alloc (.cells (cfC c A n m) 24)).alloc (.cells (roC r) 48)).alloc (.cells #[.int .i64 h.f, .int .u32 (h.a : Int), .int .i64 h.m] 31)).alloc (.cells zero9 48) = W ∧ Kp w W ∧ Blk W b 24 (cfC c A n m) ∧ Blk W (b + 1) 48 (roC r) ∧ Blk W (b + 1 + 1) 31 #[.int .i64 h.f, .int .u32 (h.a : Int), .int .i64 h.m] ∧ Blk W (b + 1 + 1 + 1) 48 (roC zeroR) := ⟨_, rfl, ((((Kp.refl _).alloc _).alloc _).alloc _).alloc _, by rw [← hb]; exact (((Blk.new _ _ _).alloc _).alloc _).alloc _, by rw [← hb]; exact ((Blk.new1 _ _ _ _).alloc _).alloc _, by rw [← hb]; exact (Blk.new2 _ _ _ _ _).alloc _, by rw [← hb]; exact Blk.new3 _ _ _ _ _ _⟩
     unfold cfC roC zero9 at hW
     have m1 : -9223372036854775808 ≤ now + c.t2 := by omega
     have m2 : now + c.t2 ≤ 9223372036854775807 := by omega
     have y2 := Blk.f C0 rfl
     have p0 := Blk.f C1 rfl
     have z7 := C1.frozen 7
     have h0 := Blk.f C2 rfl
     go_enter Tryz.func90, Tryz.ntmps90
     go_upto_region 11 with (fail)
     have C1b := C1.set_ 7 (.int .i64 (now + c.t2))
     have B3b := B3.far (p := ⟨b + 1, 7, none⟩) (by simp <;> omega) (.int .i64 (now + c.t2))
     have KW : Kp w (W.setCell ⟨b + 1, 7, none⟩ (.int .i64 (now + c.t2))) := kW.setCell (by simp <;> omega) _
     generalize W.setCell ⟨b + 1, 7, none⟩ (.int .i64 (now + c.t2)) = X at C1b B3b KW ⊢
     have C1c : Blk X (b + 1) 48 (roC ⟨r.p, r.s, r.m, r.l, r.f, r.x, now + c.t2, r.c⟩) := C1b
     clear p0 z7 h0 y2 hW C1 C1b B3 C2 C0 kW
     have p0 := Blk.f C1c rfl
     have q0 := Blk.f B3b rfl
     obtain ⟨z0, z1, z2, z3, z4, z5, z6, z7, z8⟩ := Blk.i9 B3b
     have hgw : w.heap.size ≤ b + 1 + 1 + 1 := by omega
     go_wp2_with fail
     refine bodyPost_ret (vad (g := b + 1 + 1 + 1) (R := ⟨r.p, r.s, r.m, r.l, r.f, r.x, now + c.t2, r.c⟩) rfl rfl (Blk.set9 B3b)) rfl ⟨rfl, Kp.set9 KW hgw⟩
    ·have d : (h.m + 1 == r.m) = false := by simp [hq]
     have d2 : (h.m + 1 == 16) = false := by simp; omega
     have H := Lib.hid (show hearR c r h now = newR c r h now by unfold hearR; rw [if_neg (by omega), if_pos hs, if_pos hsame, hM, if_neg hq, if_neg (by omega)])
     rw [H.out]
     clear H
     try clear hsame
     try clear hf
     try clear hx
     try clear hs
     try clear hq
     try clear hl
     try clear hM
     rw [hnew]
     go_enter Tryz.func90, Tryz.ntmps90
     go_wp2_with fail
     refine (vae c A n m r h (h.m + 1) now _ HT.out.1 HT.out.2.1 HT.out.2.2.1 HT.out.2.2.2.1).mono ?_
     rintro e w1 ⟨rfl, K1⟩
     have B3 := (Blk.new3 w _ _ _ 48 (roC zeroR)).keep K1
     have KW := ((((Kp.refl w).alloc _).alloc _).alloc _).alloc _ |>.trans K1
     obtain ⟨g, hg⟩ : ∃ g, w.heap.size + 1 + 1 + 1 = g := ⟨_, rfl⟩
     have hgw : w.heap.size ≤ g := by omega
     rw [hg] at B3
     try rw [hg]
     clear hg K1
     have q0 := Blk.f B3 rfl
     obtain ⟨z0, z1, z2, z3, z4, z5, z6, z7, z8⟩ := Blk.i9 B3
     go_wp2_with fail
     refine bodyPost_ret (vad (g := g) (R := ⟨r.p, 2, h.m + 1, 0, h.f, h.a, now + c.t2, true⟩) rfl rfl (Blk.set9 B3)) rfl ⟨rfl, Kp.set9 KW hgw⟩
   ·have ex : ((r.x : Int) == (h.a : Int)) = false := by simp; omega
    have hsame : ¬ (h.f = r.f ∧ h.a = r.x) := fun z => hx z.2.symm
    by_cases hl : h.m + 1 < r.m
    ·have d : decide (h.m + 1 < r.m) = true := decide_eq_true hl
     have H := Lib.hid (show hearR c r h now = newR c r h now by unfold hearR; rw [if_neg (by omega), if_pos hs, if_neg hsame, hM, if_pos hl])
     rw [H.out]
     clear H
     try clear hsame
     try clear hf
     try clear hx
     try clear hs
     try clear hq
     try clear hl
     try clear hM
     rw [hnew]
     go_enter Tryz.func90, Tryz.ntmps90
     go_wp2_with fail
     refine (vae c A n m r h (h.m + 1) now _ HT.out.1 HT.out.2.1 HT.out.2.2.1 HT.out.2.2.2.1).mono ?_
     rintro e w1 ⟨rfl, K1⟩
     have B3 := (Blk.new3 w _ _ _ 48 (roC zeroR)).keep K1
     have KW := ((((Kp.refl w).alloc _).alloc _).alloc _).alloc _ |>.trans K1
     obtain ⟨g, hg⟩ : ∃ g, w.heap.size + 1 + 1 + 1 = g := ⟨_, rfl⟩
     have hgw : w.heap.size ≤ g := by omega
     rw [hg] at B3
     try rw [hg]
     clear hg K1
     have q0 := Blk.f B3 rfl
     obtain ⟨z0, z1, z2, z3, z4, z5, z6, z7, z8⟩ := Blk.i9 B3
     go_wp2_with fail
     refine bodyPost_ret (vad (g := g) (R := ⟨r.p, 2, h.m + 1, 0, h.f, h.a, now + c.t2, true⟩) rfl rfl (Blk.set9 B3)) rfl ⟨rfl, Kp.set9 KW hgw⟩
    ·have d : decide (h.m + 1 < r.m) = false := decide_eq_false hl
     have H := Lib.hid (show hearR c r h now = r by unfold hearR; rw [if_neg (by omega), if_pos hs, if_neg hsame, hM, if_neg hl])
     rw [H.out]
     clear H
     try clear hsame
     try clear hf
     try clear hx
     try clear hs
     try clear hq
     try clear hl
     try clear hM
     go_enter Tryz.func90, Tryz.ntmps90
     go_wp2_with fail
     refine bodyPost_ret (vad (g := w.heap.size + 1 + 1 + 1) (R := r) rfl rfl (Blk.new3 w _ _ _ _ _)) rfl ⟨rfl, ((((Kp.refl _).alloc _).alloc _).alloc _).alloc _⟩
  ·have ef : (r.f == h.f) = false := by simp [hf]
   have hsame : ¬ (h.f = r.f ∧ h.a = r.x) := fun z => hf z.1.symm
   by_cases hl : h.m + 1 < r.m
   ·have d : decide (h.m + 1 < r.m) = true := decide_eq_true hl
    have H := Lib.hid (show hearR c r h now = newR c r h now by unfold hearR; rw [if_neg (by omega), if_pos hs, if_neg hsame, hM, if_pos hl])
    rw [H.out]
    clear H
    try clear hsame
    try clear hf
    try clear hx
    try clear hs
    try clear hq
    try clear hl
    try clear hM
    rw [hnew]
    go_enter Tryz.func90, Tryz.ntmps90
    go_wp2_with fail
    refine (vae c A n m r h (h.m + 1) now _ HT.out.1 HT.out.2.1 HT.out.2.2.1 HT.out.2.2.2.1).mono ?_
    rintro e w1 ⟨rfl, K1⟩
    have B3 := (Blk.new3 w _ _ _ 48 (roC zeroR)).keep K1
    have KW := ((((Kp.refl w).alloc _).alloc _).alloc _).alloc _ |>.trans K1
    obtain ⟨g, hg⟩ : ∃ g, w.heap.size + 1 + 1 + 1 = g := ⟨_, rfl⟩
    have hgw : w.heap.size ≤ g := by omega
    rw [hg] at B3
    try rw [hg]
    clear hg K1
    have q0 := Blk.f B3 rfl
    obtain ⟨z0, z1, z2, z3, z4, z5, z6, z7, z8⟩ := Blk.i9 B3
    go_wp2_with fail
    refine bodyPost_ret (vad (g := g) (R := ⟨r.p, 2, h.m + 1, 0, h.f, h.a, now + c.t2, true⟩) rfl rfl (Blk.set9 B3)) rfl ⟨rfl, Kp.set9 KW hgw⟩
   ·have d : decide (h.m + 1 < r.m) = false := decide_eq_false hl
    have H := Lib.hid (show hearR c r h now = r by unfold hearR; rw [if_neg (by omega), if_pos hs, if_neg hsame, hM, if_neg hl])
    rw [H.out]
    clear H
    try clear hsame
    try clear hf
    try clear hx
    try clear hs
    try clear hq
    try clear hl
    try clear hM
    go_enter Tryz.func90, Tryz.ntmps90
    go_wp2_with fail
    refine bodyPost_ret (vad (g := w.heap.size + 1 + 1 + 1) (R := r) rfl rfl (Blk.new3 w _ _ _ _ _)) rfl ⟨rfl, ((((Kp.refl _).alloc _).alloc _).alloc _).alloc _⟩
 ·have hM : min (h.m + 1) 16 = 16 := by omega
  have h16 : 16 ≤ h.m + 1 := by omega
  have hnew : newR c r h now = ⟨r.p, 2, 16, 0, h.f, h.a, now + c.t2, true⟩ := by unfold newR; rw [hM]
  by_cases hf : r.f = h.f
  ·have ef : (r.f == h.f) = true := by simp [hf]
   by_cases hx : r.x = h.a
   ·have ex : ((r.x : Int) == (h.a : Int)) = true := by simp [hx]
    have hsame : h.f = r.f ∧ h.a = r.x := ⟨hf.symm, hx.symm⟩
    by_cases hq : 16 = r.m
    ·have d : (16 == r.m) = true := by simp [hq]
     have H := Lib.hid (show hearR c r h now = ⟨r.p, r.s, r.m, r.l, r.f, r.x, now + c.t2, r.c⟩ by unfold hearR; rw [if_neg (by omega), if_pos hs, if_pos hsame, hM, if_pos hq, hs])
     rw [H.out]
     clear H
     try clear hsame
     try clear hf
     try clear hx
     try clear hs
     try clear hq
     try clear hl
     try clear hM
     obtain ⟨b, hb⟩ : ∃ b, w.heap.size = b := ⟨_, rfl⟩
     obtain ⟨W, hW, kW, C0, C1, C2, B3⟩ : ∃ W, (((w.alloc (.cells (cfC c A n m) 24)).alloc (.cells (roC r) 48)).alloc (.cells #[.int .i64 h.f, .int .u32 (h.a : Int), .int .i64 h.m] 31)).alloc (.cells zero9 48) = W ∧ Kp w W ∧ Blk W b 24 (cfC c A n m) ∧ Blk W (b + 1) 48 (roC r) ∧ Blk W (b + 1 + 1) 31 #[.int .i64 h.f, .int .u32 (h.a : Int), .int .i64 h.m] ∧ Blk W (b + 1 + 1 + 1) 48 (roC zeroR) := ⟨_, rfl, ((((Kp.refl _).alloc _).alloc _).alloc _).alloc _, by rw [← hb]; exact (((Blk.new _ _ _).alloc _).alloc _).alloc _, by rw [← hb]; exact ((Blk.new1 _ _ _ _).alloc _).alloc _, by rw [← hb]; exact (Blk.new2 _ _ _ _ _).alloc _, by rw [← hb]; exact Blk.new3 _ _ _ _ _ _⟩
     unfold cfC roC zero9 at hW
     have m1 : -9223372036854775808 ≤ now + c.t2 := by omega
     have m2 : now + c.t2 ≤ 9223372036854775807 := by omega
     have y2 := Blk.f C0 rfl
     have p0 := Blk.f C1 rfl
     have z7 := C1.frozen 7
     have h0 := Blk.f C2 rfl
     go_enter Tryz.func90, Tryz.ntmps90
     go_upto_region 11 with (fail)
     have C1b := C1.set_ 7 (.int .i64 (now + c.t2))
     have B3b := B3.far (p := ⟨b + 1, 7, none⟩) (by simp <;> omega) (.int .i64 (now + c.t2))
     have KW : Kp w (W.setCell ⟨b + 1, 7, none⟩ (.int .i64 (now + c.t2))) := kW.setCell (by simp <;> omega) _
     generalize W.setCell ⟨b + 1, 7, none⟩ (.int .i64 (now + c.t2)) = X at C1b B3b KW ⊢
     have C1c : Blk X (b + 1) 48 (roC ⟨r.p, r.s, r.m, r.l, r.f, r.x, now + c.t2, r.c⟩) := C1b
     clear p0 z7 h0 y2 hW C1 C1b B3 C2 C0 kW
     have p0 := Blk.f C1c rfl
     have q0 := Blk.f B3b rfl
     obtain ⟨z0, z1, z2, z3, z4, z5, z6, z7, z8⟩ := Blk.i9 B3b
     have hgw : w.heap.size ≤ b + 1 + 1 + 1 := by omega
     go_wp2_with fail
     refine bodyPost_ret (vad (g := b + 1 + 1 + 1) (R := ⟨r.p, r.s, r.m, r.l, r.f, r.x, now + c.t2, r.c⟩) rfl rfl (Blk.set9 B3b)) rfl ⟨rfl, Kp.set9 KW hgw⟩
    ·have d : (16 == r.m) = false := by simp [hq]
     have H := Lib.hid (show hearR c r h now = loseR c r now by unfold hearR loseR; rw [if_neg (by omega), if_pos hs, if_pos hsame, hM, if_neg hq, if_pos (by omega), if_pos hs])
     rw [H.out]
     clear H
     try clear hsame
     try clear hf
     try clear hx
     try clear hs
     try clear hq
     try clear hl
     try clear hM
     go_enter Tryz.func90, Tryz.ntmps90
     go_wp2_with fail
     refine (vbX c A n m r now _ HT.out.1 HT.out.2.1 HT.out.2.2.2.2.1 HT.out.2.2.2.2.2).mono ?_
     rintro e w1 ⟨rfl, K1⟩
     have B3 := (Blk.new3 w _ _ _ 48 (roC zeroR)).keep K1
     have KW := ((((Kp.refl w).alloc _).alloc _).alloc _).alloc _ |>.trans K1
     obtain ⟨g, hg⟩ : ∃ g, w.heap.size + 1 + 1 + 1 = g := ⟨_, rfl⟩
     have hgw : w.heap.size ≤ g := by omega
     rw [hg] at B3
     try rw [hg]
     clear hg K1
     have q0 := Blk.f B3 rfl
     obtain ⟨z0, z1, z2, z3, z4, z5, z6, z7, z8⟩ := Blk.i9 B3
     go_wp2_with fail
     refine bodyPost_ret (vad (g := g) (R := loseR c r now) rfl rfl (Blk.set9 B3)) rfl ⟨rfl, Kp.set9 KW hgw⟩
   ·have ex : ((r.x : Int) == (h.a : Int)) = false := by simp; omega
    have hsame : ¬ (h.f = r.f ∧ h.a = r.x) := fun z => hx z.2.symm
    by_cases hl : 16 < r.m
    ·have d : decide (16 < r.m) = true := decide_eq_true hl
     have H := Lib.hid (show hearR c r h now = newR c r h now by unfold hearR; rw [if_neg (by omega), if_pos hs, if_neg hsame, hM, if_pos hl])
     rw [H.out]
     clear H
     try clear hsame
     try clear hf
     try clear hx
     try clear hs
     try clear hq
     try clear hl
     try clear hM
     rw [hnew]
     go_enter Tryz.func90, Tryz.ntmps90
     go_wp2_with fail
     refine (vae c A n m r h (16) now _ HT.out.1 HT.out.2.1 HT.out.2.2.1 HT.out.2.2.2.1).mono ?_
     rintro e w1 ⟨rfl, K1⟩
     have B3 := (Blk.new3 w _ _ _ 48 (roC zeroR)).keep K1
     have KW := ((((Kp.refl w).alloc _).alloc _).alloc _).alloc _ |>.trans K1
     obtain ⟨g, hg⟩ : ∃ g, w.heap.size + 1 + 1 + 1 = g := ⟨_, rfl⟩
     have hgw : w.heap.size ≤ g := by omega
     rw [hg] at B3
     try rw [hg]
     clear hg K1
     have q0 := Blk.f B3 rfl
     obtain ⟨z0, z1, z2, z3, z4, z5, z6, z7, z8⟩ := Blk.i9 B3
     go_wp2_with fail
     refine bodyPost_ret (vad (g := g) (R := ⟨r.p, 2, 16, 0, h.f, h.a, now + c.t2, true⟩) rfl rfl (Blk.set9 B3)) rfl ⟨rfl, Kp.set9 KW hgw⟩
    ·have d : decide (16 < r.m) = false := decide_eq_false hl
     have H := Lib.hid (show hearR c r h now = r by unfold hearR; rw [if_neg (by omega), if_pos hs, if_neg hsame, hM, if_neg hl])
     rw [H.out]
     clear H
     try clear hsame
     try clear hf
     try clear hx
     try clear hs
     try clear hq
     try clear hl
     try clear hM
     go_enter Tryz.func90, Tryz.ntmps90
     go_wp2_with fail
     refine bodyPost_ret (vad (g := w.heap.size + 1 + 1 + 1) (R := r) rfl rfl (Blk.new3 w _ _ _ _ _)) rfl ⟨rfl, ((((Kp.refl _).alloc _).alloc _).alloc _).alloc _⟩
  ·have ef : (r.f == h.f) = false := by simp [hf]
   have hsame : ¬ (h.f = r.f ∧ h.a = r.x) := fun z => hf z.1.symm
   by_cases hl : 16 < r.m
   ·have d : decide (16 < r.m) = true := decide_eq_true hl
    have H := Lib.hid (show hearR c r h now = newR c r h now by unfold hearR; rw [if_neg (by omega), if_pos hs, if_neg hsame, hM, if_pos hl])
    rw [H.out]
    clear H
    try clear hsame
    try clear hf
    try clear hx
    try clear hs
    try clear hq
    try clear hl
    try clear hM
    rw [hnew]
    go_enter Tryz.func90, Tryz.ntmps90
    go_wp2_with fail
    refine (vae c A n m r h (16) now _ HT.out.1 HT.out.2.1 HT.out.2.2.1 HT.out.2.2.2.1).mono ?_
    rintro e w1 ⟨rfl, K1⟩
    have B3 := (Blk.new3 w _ _ _ 48 (roC zeroR)).keep K1
    have KW := ((((Kp.refl w).alloc _).alloc _).alloc _).alloc _ |>.trans K1
    obtain ⟨g, hg⟩ : ∃ g, w.heap.size + 1 + 1 + 1 = g := ⟨_, rfl⟩
    have hgw : w.heap.size ≤ g := by omega
    rw [hg] at B3
    try rw [hg]
    clear hg K1
    have q0 := Blk.f B3 rfl
    obtain ⟨z0, z1, z2, z3, z4, z5, z6, z7, z8⟩ := Blk.i9 B3
    go_wp2_with fail
    refine bodyPost_ret (vad (g := g) (R := ⟨r.p, 2, 16, 0, h.f, h.a, now + c.t2, true⟩) rfl rfl (Blk.set9 B3)) rfl ⟨rfl, Kp.set9 KW hgw⟩
   ·have d : decide (16 < r.m) = false := decide_eq_false hl
    have H := Lib.hid (show hearR c r h now = r by unfold hearR; rw [if_neg (by omega), if_pos hs, if_neg hsame, hM, if_neg hl])
    rw [H.out]
    clear H
    try clear hsame
    try clear hf
    try clear hx
    try clear hs
    try clear hq
    try clear hl
    try clear hM
    go_enter Tryz.func90, Tryz.ntmps90
    go_wp2_with fail
    refine bodyPost_ret (vad (g := w.heap.size + 1 + 1 + 1) (R := r) rfl rfl (Blk.new3 w _ _ _ _ _)) rfl ⟨rfl, ((((Kp.refl _).alloc _).alloc _).alloc _).alloc _⟩
set_option maxRecDepth 100000 in
theorem vhk (c : Cf) (A : Option Addr) (n m : Nat) (r : Rt) (h : Hd) (now : Int) (w : World) (hs : r.s = 3) (hm0 : 1 ≤ h.m) (hm1 : h.m ≤ 16) (hn0 : 0 ≤ now) (hn1 : now ≤ 4611686018426387904) (ht0 : 0 ≤ c.t2) (ht1 : c.t2 ≤ 1000000) (hu0 : 0 ≤ c.t3) (hu1 : c.t3 ≤ 1000000) :
  Calls Tryz.prog 90 #[cfV c A n m, roV r, .agg #[.int .i64 h.f, .int .u32 (h.a : Int), .int .i64 h.m], .int .i64 now] w fun e w' => e = .returned (roV (hearR c r h now)) ∧ Kp w w' := by
 have HT := Lib.hid (And.intro hn0 (And.intro hn1 (And.intro ht0 (And.intro ht1 (And.intro hu0 hu1)))))
 have e0 : (r.s == 0) = false := by simp [hs]
 have e4 : (r.s == 4) = false := by simp [hs]
 have e2 : (r.s == 2) = false := by simp [hs]
 have e3 : (r.s == 3) = true := by simp [hs]
 by_cases hc : h.m < 15
 ·have hM : min (h.m + 1) 16 = h.m + 1 := by omega
  have h16 : ¬ (16 ≤ h.m + 1) := by omega
  have hnew : newR c r h now = ⟨r.p, 2, h.m + 1, 0, h.f, h.a, now + c.t2, true⟩ := by unfold newR; rw [hM]
  by_cases hf : r.f = h.f
  ·have ef : (r.f == h.f) = true := by simp [hf]
   by_cases hx : r.x = h.a
   ·have ex : ((r.x : Int) == (h.a : Int)) = true := by simp [hx]
    have hsame : h.f = r.f ∧ h.a = r.x := ⟨hf.symm, hx.symm⟩
    by_cases hl : h.m + 1 < r.l
    ·have d : decide (h.m + 1 < r.l) = true := decide_eq_true hl
     have H := Lib.hid (show hearR c r h now = newR c r h now by unfold hearR; rw [if_neg (by omega), if_neg (by omega), if_pos hs, hM, if_pos hl])
     rw [H.out]
     clear H
     try clear hsame
     try clear hf
     try clear hx
     try clear hs
     try clear hq
     try clear hl
     try clear hM
     rw [hnew]
     go_enter Tryz.func90, Tryz.ntmps90
     go_wp2_with fail
     refine (vae c A n m r h (h.m + 1) now _ HT.out.1 HT.out.2.1 HT.out.2.2.1 HT.out.2.2.2.1).mono ?_
     rintro e w1 ⟨rfl, K1⟩
     have B3 := (Blk.new3 w _ _ _ 48 (roC zeroR)).keep K1
     have KW := ((((Kp.refl w).alloc _).alloc _).alloc _).alloc _ |>.trans K1
     obtain ⟨g, hg⟩ : ∃ g, w.heap.size + 1 + 1 + 1 = g := ⟨_, rfl⟩
     have hgw : w.heap.size ≤ g := by omega
     rw [hg] at B3
     try rw [hg]
     clear hg K1
     have q0 := Blk.f B3 rfl
     have z0 := Blk.frozen B3
     go_wp2_with fail
     refine bodyPost_ret (vad (g := g) (R := ⟨r.p, 2, h.m + 1, 0, h.f, h.a, now + c.t2, true⟩) rfl rfl (Blk.set9 B3)) rfl ⟨rfl, Kp.set9 KW hgw⟩
    ·have d : decide (h.m + 1 < r.l) = false := decide_eq_false hl
     have H := Lib.hid (show hearR c r h now = r by unfold hearR; rw [if_neg (by omega), if_neg (by omega), if_pos hs, hM, if_neg hl])
     rw [H.out]
     clear H
     try clear hsame
     try clear hf
     try clear hx
     try clear hs
     try clear hq
     try clear hl
     try clear hM
     go_enter Tryz.func90, Tryz.ntmps90
     go_wp2_with fail
     refine bodyPost_ret (vad (g := w.heap.size + 1 + 1 + 1) (R := r) rfl rfl (Blk.new3 w _ _ _ _ _)) rfl ⟨rfl, ((((Kp.refl _).alloc _).alloc _).alloc _).alloc _⟩
   ·have ex : ((r.x : Int) == (h.a : Int)) = false := by simp; omega
    have hsame : ¬ (h.f = r.f ∧ h.a = r.x) := fun z => hx z.2.symm
    by_cases hl : h.m + 1 < r.l
    ·have d : decide (h.m + 1 < r.l) = true := decide_eq_true hl
     have H := Lib.hid (show hearR c r h now = newR c r h now by unfold hearR; rw [if_neg (by omega), if_neg (by omega), if_pos hs, hM, if_pos hl])
     rw [H.out]
     clear H
     try clear hsame
     try clear hf
     try clear hx
     try clear hs
     try clear hq
     try clear hl
     try clear hM
     rw [hnew]
     go_enter Tryz.func90, Tryz.ntmps90
     go_wp2_with fail
     refine (vae c A n m r h (h.m + 1) now _ HT.out.1 HT.out.2.1 HT.out.2.2.1 HT.out.2.2.2.1).mono ?_
     rintro e w1 ⟨rfl, K1⟩
     have B3 := (Blk.new3 w _ _ _ 48 (roC zeroR)).keep K1
     have KW := ((((Kp.refl w).alloc _).alloc _).alloc _).alloc _ |>.trans K1
     obtain ⟨g, hg⟩ : ∃ g, w.heap.size + 1 + 1 + 1 = g := ⟨_, rfl⟩
     have hgw : w.heap.size ≤ g := by omega
     rw [hg] at B3
     try rw [hg]
     clear hg K1
     have q0 := Blk.f B3 rfl
     have z0 := Blk.frozen B3
     go_wp2_with fail
     refine bodyPost_ret (vad (g := g) (R := ⟨r.p, 2, h.m + 1, 0, h.f, h.a, now + c.t2, true⟩) rfl rfl (Blk.set9 B3)) rfl ⟨rfl, Kp.set9 KW hgw⟩
    ·have d : decide (h.m + 1 < r.l) = false := decide_eq_false hl
     have H := Lib.hid (show hearR c r h now = r by unfold hearR; rw [if_neg (by omega), if_neg (by omega), if_pos hs, hM, if_neg hl])
     rw [H.out]
     clear H
     try clear hsame
     try clear hf
     try clear hx
     try clear hs
     try clear hq
     try clear hl
     try clear hM
     go_enter Tryz.func90, Tryz.ntmps90
     go_wp2_with fail
     refine bodyPost_ret (vad (g := w.heap.size + 1 + 1 + 1) (R := r) rfl rfl (Blk.new3 w _ _ _ _ _)) rfl ⟨rfl, ((((Kp.refl _).alloc _).alloc _).alloc _).alloc _⟩
  ·have ef : (r.f == h.f) = false := by simp [hf]
   have hsame : ¬ (h.f = r.f ∧ h.a = r.x) := fun z => hf z.1.symm
   by_cases hl : h.m + 1 < r.l
   ·have d : decide (h.m + 1 < r.l) = true := decide_eq_true hl
    have H := Lib.hid (show hearR c r h now = newR c r h now by unfold hearR; rw [if_neg (by omega), if_neg (by omega), if_pos hs, hM, if_pos hl])
    rw [H.out]
    clear H
    try clear hsame
    try clear hf
    try clear hx
    try clear hs
    try clear hq
    try clear hl
    try clear hM
    rw [hnew]
    go_enter Tryz.func90, Tryz.ntmps90
    go_wp2_with fail
    refine (vae c A n m r h (h.m + 1) now _ HT.out.1 HT.out.2.1 HT.out.2.2.1 HT.out.2.2.2.1).mono ?_
    rintro e w1 ⟨rfl, K1⟩
    have B3 := (Blk.new3 w _ _ _ 48 (roC zeroR)).keep K1
    have KW := ((((Kp.refl w).alloc _).alloc _).alloc _).alloc _ |>.trans K1
    obtain ⟨g, hg⟩ : ∃ g, w.heap.size + 1 + 1 + 1 = g := ⟨_, rfl⟩
    have hgw : w.heap.size ≤ g := by omega
    rw [hg] at B3
    try rw [hg]
    clear hg K1
    have q0 := Blk.f B3 rfl
    have z0 := Blk.frozen B3
    go_wp2_with fail
    refine bodyPost_ret (vad (g := g) (R := ⟨r.p, 2, h.m + 1, 0, h.f, h.a, now + c.t2, true⟩) rfl rfl (Blk.set9 B3)) rfl ⟨rfl, Kp.set9 KW hgw⟩
   ·have d : decide (h.m + 1 < r.l) = false := decide_eq_false hl
    have H := Lib.hid (show hearR c r h now = r by unfold hearR; rw [if_neg (by omega), if_neg (by omega), if_pos hs, hM, if_neg hl])
    rw [H.out]
    clear H
    try clear hsame
    try clear hf
    try clear hx
    try clear hs
    try clear hq
    try clear hl
    try clear hM
    go_enter Tryz.func90, Tryz.ntmps90
    go_wp2_with fail
    refine bodyPost_ret (vad (g := w.heap.size + 1 + 1 + 1) (R := r) rfl rfl (Blk.new3 w _ _ _ _ _)) rfl ⟨rfl, ((((Kp.refl _).alloc _).alloc _).alloc _).alloc _⟩
 ·have hM : min (h.m + 1) 16 = 16 := by omega
  have h16 : 16 ≤ h.m + 1 := by omega
  have hnew : newR c r h now = ⟨r.p, 2, 16, 0, h.f, h.a, now + c.t2, true⟩ := by unfold newR; rw [hM]
  by_cases hf : r.f = h.f
  ·have ef : (r.f == h.f) = true := by simp [hf]
   by_cases hx : r.x = h.a
   ·have ex : ((r.x : Int) == (h.a : Int)) = true := by simp [hx]
    have hsame : h.f = r.f ∧ h.a = r.x := ⟨hf.symm, hx.symm⟩
    by_cases hl : 16 < r.l
    ·have d : decide (16 < r.l) = true := decide_eq_true hl
     have H := Lib.hid (show hearR c r h now = newR c r h now by unfold hearR; rw [if_neg (by omega), if_neg (by omega), if_pos hs, hM, if_pos hl])
     rw [H.out]
     clear H
     try clear hsame
     try clear hf
     try clear hx
     try clear hs
     try clear hq
     try clear hl
     try clear hM
     rw [hnew]
     go_enter Tryz.func90, Tryz.ntmps90
     go_wp2_with fail
     refine (vae c A n m r h (16) now _ HT.out.1 HT.out.2.1 HT.out.2.2.1 HT.out.2.2.2.1).mono ?_
     rintro e w1 ⟨rfl, K1⟩
     have B3 := (Blk.new3 w _ _ _ 48 (roC zeroR)).keep K1
     have KW := ((((Kp.refl w).alloc _).alloc _).alloc _).alloc _ |>.trans K1
     obtain ⟨g, hg⟩ : ∃ g, w.heap.size + 1 + 1 + 1 = g := ⟨_, rfl⟩
     have hgw : w.heap.size ≤ g := by omega
     rw [hg] at B3
     try rw [hg]
     clear hg K1
     have q0 := Blk.f B3 rfl
     have z0 := Blk.frozen B3
     go_wp2_with fail
     refine bodyPost_ret (vad (g := g) (R := ⟨r.p, 2, 16, 0, h.f, h.a, now + c.t2, true⟩) rfl rfl (Blk.set9 B3)) rfl ⟨rfl, Kp.set9 KW hgw⟩
    ·have d : decide (16 < r.l) = false := decide_eq_false hl
     have H := Lib.hid (show hearR c r h now = r by unfold hearR; rw [if_neg (by omega), if_neg (by omega), if_pos hs, hM, if_neg hl])
     rw [H.out]
     clear H
     try clear hsame
     try clear hf
     try clear hx
     try clear hs
     try clear hq
     try clear hl
     try clear hM
     go_enter Tryz.func90, Tryz.ntmps90
     go_wp2_with fail
     refine bodyPost_ret (vad (g := w.heap.size + 1 + 1 + 1) (R := r) rfl rfl (Blk.new3 w _ _ _ _ _)) rfl ⟨rfl, ((((Kp.refl _).alloc _).alloc _).alloc _).alloc _⟩
   ·have ex : ((r.x : Int) == (h.a : Int)) = false := by simp; omega
    have hsame : ¬ (h.f = r.f ∧ h.a = r.x) := fun z => hx z.2.symm
    by_cases hl : 16 < r.l
    ·have d : decide (16 < r.l) = true := decide_eq_true hl
     have H := Lib.hid (show hearR c r h now = newR c r h now by unfold hearR; rw [if_neg (by omega), if_neg (by omega), if_pos hs, hM, if_pos hl])
     rw [H.out]
     clear H
     try clear hsame
     try clear hf
     try clear hx
     try clear hs
     try clear hq
     try clear hl
     try clear hM
     rw [hnew]
     go_enter Tryz.func90, Tryz.ntmps90
     go_wp2_with fail
     refine (vae c A n m r h (16) now _ HT.out.1 HT.out.2.1 HT.out.2.2.1 HT.out.2.2.2.1).mono ?_
     rintro e w1 ⟨rfl, K1⟩
     have B3 := (Blk.new3 w _ _ _ 48 (roC zeroR)).keep K1
     have KW := ((((Kp.refl w).alloc _).alloc _).alloc _).alloc _ |>.trans K1
     obtain ⟨g, hg⟩ : ∃ g, w.heap.size + 1 + 1 + 1 = g := ⟨_, rfl⟩
     have hgw : w.heap.size ≤ g := by omega
     rw [hg] at B3
     try rw [hg]
     clear hg K1
     have q0 := Blk.f B3 rfl
     have z0 := Blk.frozen B3
     go_wp2_with fail
     refine bodyPost_ret (vad (g := g) (R := ⟨r.p, 2, 16, 0, h.f, h.a, now + c.t2, true⟩) rfl rfl (Blk.set9 B3)) rfl ⟨rfl, Kp.set9 KW hgw⟩
    ·have d : decide (16 < r.l) = false := decide_eq_false hl
     have H := Lib.hid (show hearR c r h now = r by unfold hearR; rw [if_neg (by omega), if_neg (by omega), if_pos hs, hM, if_neg hl])
     rw [H.out]
     clear H
     try clear hsame
     try clear hf
     try clear hx
     try clear hs
     try clear hq
     try clear hl
     try clear hM
     go_enter Tryz.func90, Tryz.ntmps90
     go_wp2_with fail
     refine bodyPost_ret (vad (g := w.heap.size + 1 + 1 + 1) (R := r) rfl rfl (Blk.new3 w _ _ _ _ _)) rfl ⟨rfl, ((((Kp.refl _).alloc _).alloc _).alloc _).alloc _⟩
  ·have ef : (r.f == h.f) = false := by simp [hf]
   have hsame : ¬ (h.f = r.f ∧ h.a = r.x) := fun z => hf z.1.symm
   by_cases hl : 16 < r.l
   ·have d : decide (16 < r.l) = true := decide_eq_true hl
    have H := Lib.hid (show hearR c r h now = newR c r h now by unfold hearR; rw [if_neg (by omega), if_neg (by omega), if_pos hs, hM, if_pos hl])
    rw [H.out]
    clear H
    try clear hsame
    try clear hf
    try clear hx
    try clear hs
    try clear hq
    try clear hl
    try clear hM
    rw [hnew]
    go_enter Tryz.func90, Tryz.ntmps90
    go_wp2_with fail
    refine (vae c A n m r h (16) now _ HT.out.1 HT.out.2.1 HT.out.2.2.1 HT.out.2.2.2.1).mono ?_
    rintro e w1 ⟨rfl, K1⟩
    have B3 := (Blk.new3 w _ _ _ 48 (roC zeroR)).keep K1
    have KW := ((((Kp.refl w).alloc _).alloc _).alloc _).alloc _ |>.trans K1
    obtain ⟨g, hg⟩ : ∃ g, w.heap.size + 1 + 1 + 1 = g := ⟨_, rfl⟩
    have hgw : w.heap.size ≤ g := by omega
    rw [hg] at B3
    try rw [hg]
    clear hg K1
    have q0 := Blk.f B3 rfl
    have z0 := Blk.frozen B3
    go_wp2_with fail
    refine bodyPost_ret (vad (g := g) (R := ⟨r.p, 2, 16, 0, h.f, h.a, now + c.t2, true⟩) rfl rfl (Blk.set9 B3)) rfl ⟨rfl, Kp.set9 KW hgw⟩
   ·have d : decide (16 < r.l) = false := decide_eq_false hl
    have H := Lib.hid (show hearR c r h now = r by unfold hearR; rw [if_neg (by omega), if_neg (by omega), if_pos hs, hM, if_neg hl])
    rw [H.out]
    clear H
    try clear hsame
    try clear hf
    try clear hx
    try clear hs
    try clear hq
    try clear hl
    try clear hM
    go_enter Tryz.func90, Tryz.ntmps90
    go_wp2_with fail
    refine bodyPost_ret (vad (g := w.heap.size + 1 + 1 + 1) (R := r) rfl rfl (Blk.new3 w _ _ _ _ _)) rfl ⟨rfl, ((((Kp.refl _).alloc _).alloc _).alloc _).alloc _⟩
set_option maxRecDepth 100000 in
theorem vhl (c : Cf) (A : Option Addr) (n m : Nat) (r : Rt) (h : Hd) (now : Int) (w : World) (hs : r.s = 4) (hm0 : 1 ≤ h.m) (hm1 : h.m ≤ 16) (hn0 : 0 ≤ now) (hn1 : now ≤ 4611686018426387904) (ht0 : 0 ≤ c.t2) (ht1 : c.t2 ≤ 1000000) (hu0 : 0 ≤ c.t3) (hu1 : c.t3 ≤ 1000000) :
  Calls Tryz.prog 90 #[cfV c A n m, roV r, .agg #[.int .i64 h.f, .int .u32 (h.a : Int), .int .i64 h.m], .int .i64 now] w fun e w' => e = .returned (roV (hearR c r h now)) ∧ Kp w w' := by
 have HT := Lib.hid (And.intro hn0 (And.intro hn1 (And.intro ht0 (And.intro ht1 (And.intro hu0 hu1)))))
 have e0 : (r.s == 0) = false := by simp [hs]
 have e4 : (r.s == 4) = true := by simp [hs]
 have e2 : (r.s == 2) = false := by simp [hs]
 have e3 : (r.s == 3) = false := by simp [hs]
 by_cases hc : h.m < 15
 ·have hM : min (h.m + 1) 16 = h.m + 1 := by omega
  have h16 : ¬ (16 ≤ h.m + 1) := by omega
  have hnew : newR c r h now = ⟨r.p, 2, h.m + 1, 0, h.f, h.a, now + c.t2, true⟩ := by unfold newR; rw [hM]
  by_cases hf : r.f = h.f
  ·have ef : (r.f == h.f) = true := by simp [hf]
   by_cases hx : r.x = h.a
   ·have ex : ((r.x : Int) == (h.a : Int)) = true := by simp [hx]
    have hsame : h.f = r.f ∧ h.a = r.x := ⟨hf.symm, hx.symm⟩
    have d : decide (h.m + 1 < 16) = true := decide_eq_true (by omega)
    have H := Lib.hid (show hearR c r h now = newR c r h now by unfold hearR; rw [if_neg (by omega), if_neg (by omega), if_neg (by omega), hM, if_pos (by omega)])
    rw [H.out]
    clear H
    try clear hsame
    try clear hf
    try clear hx
    try clear hs
    try clear hq
    try clear hl
    try clear hM
    rw [hnew]
    go_enter Tryz.func90, Tryz.ntmps90
    go_wp2_with fail
    refine (vae c A n m r h (h.m + 1) now _ HT.out.1 HT.out.2.1 HT.out.2.2.1 HT.out.2.2.2.1).mono ?_
    rintro e w1 ⟨rfl, K1⟩
    have B3 := (Blk.new3 w _ _ _ 48 (roC zeroR)).keep K1
    have KW := ((((Kp.refl w).alloc _).alloc _).alloc _).alloc _ |>.trans K1
    obtain ⟨g, hg⟩ : ∃ g, w.heap.size + 1 + 1 + 1 = g := ⟨_, rfl⟩
    have hgw : w.heap.size ≤ g := by omega
    rw [hg] at B3
    try rw [hg]
    clear hg K1
    have q0 := Blk.f B3 rfl
    have z0 := Blk.frozen B3
    go_wp2_with fail
    refine bodyPost_ret (vad (g := g) (R := ⟨r.p, 2, h.m + 1, 0, h.f, h.a, now + c.t2, true⟩) rfl rfl (Blk.set9 B3)) rfl ⟨rfl, Kp.set9 KW hgw⟩
   ·have ex : ((r.x : Int) == (h.a : Int)) = false := by simp; omega
    have hsame : ¬ (h.f = r.f ∧ h.a = r.x) := fun z => hx z.2.symm
    have d : decide (h.m + 1 < 16) = true := decide_eq_true (by omega)
    have H := Lib.hid (show hearR c r h now = newR c r h now by unfold hearR; rw [if_neg (by omega), if_neg (by omega), if_neg (by omega), hM, if_pos (by omega)])
    rw [H.out]
    clear H
    try clear hsame
    try clear hf
    try clear hx
    try clear hs
    try clear hq
    try clear hl
    try clear hM
    rw [hnew]
    go_enter Tryz.func90, Tryz.ntmps90
    go_wp2_with fail
    refine (vae c A n m r h (h.m + 1) now _ HT.out.1 HT.out.2.1 HT.out.2.2.1 HT.out.2.2.2.1).mono ?_
    rintro e w1 ⟨rfl, K1⟩
    have B3 := (Blk.new3 w _ _ _ 48 (roC zeroR)).keep K1
    have KW := ((((Kp.refl w).alloc _).alloc _).alloc _).alloc _ |>.trans K1
    obtain ⟨g, hg⟩ : ∃ g, w.heap.size + 1 + 1 + 1 = g := ⟨_, rfl⟩
    have hgw : w.heap.size ≤ g := by omega
    rw [hg] at B3
    try rw [hg]
    clear hg K1
    have q0 := Blk.f B3 rfl
    have z0 := Blk.frozen B3
    go_wp2_with fail
    refine bodyPost_ret (vad (g := g) (R := ⟨r.p, 2, h.m + 1, 0, h.f, h.a, now + c.t2, true⟩) rfl rfl (Blk.set9 B3)) rfl ⟨rfl, Kp.set9 KW hgw⟩
  ·have ef : (r.f == h.f) = false := by simp [hf]
   have hsame : ¬ (h.f = r.f ∧ h.a = r.x) := fun z => hf z.1.symm
   have d : decide (h.m + 1 < 16) = true := decide_eq_true (by omega)
   have H := Lib.hid (show hearR c r h now = newR c r h now by unfold hearR; rw [if_neg (by omega), if_neg (by omega), if_neg (by omega), hM, if_pos (by omega)])
   rw [H.out]
   clear H
   try clear hsame
   try clear hf
   try clear hx
   try clear hs
   try clear hq
   try clear hl
   try clear hM
   rw [hnew]
   go_enter Tryz.func90, Tryz.ntmps90
   go_wp2_with fail
   refine (vae c A n m r h (h.m + 1) now _ HT.out.1 HT.out.2.1 HT.out.2.2.1 HT.out.2.2.2.1).mono ?_
   rintro e w1 ⟨rfl, K1⟩
   have B3 := (Blk.new3 w _ _ _ 48 (roC zeroR)).keep K1
   have KW := ((((Kp.refl w).alloc _).alloc _).alloc _).alloc _ |>.trans K1
   obtain ⟨g, hg⟩ : ∃ g, w.heap.size + 1 + 1 + 1 = g := ⟨_, rfl⟩
   have hgw : w.heap.size ≤ g := by omega
   rw [hg] at B3
   try rw [hg]
   clear hg K1
   have q0 := Blk.f B3 rfl
   have z0 := Blk.frozen B3
   go_wp2_with fail
   refine bodyPost_ret (vad (g := g) (R := ⟨r.p, 2, h.m + 1, 0, h.f, h.a, now + c.t2, true⟩) rfl rfl (Blk.set9 B3)) rfl ⟨rfl, Kp.set9 KW hgw⟩
 ·have hM : min (h.m + 1) 16 = 16 := by omega
  have h16 : 16 ≤ h.m + 1 := by omega
  have hnew : newR c r h now = ⟨r.p, 2, 16, 0, h.f, h.a, now + c.t2, true⟩ := by unfold newR; rw [hM]
  by_cases hf : r.f = h.f
  ·have ef : (r.f == h.f) = true := by simp [hf]
   by_cases hx : r.x = h.a
   ·have ex : ((r.x : Int) == (h.a : Int)) = true := by simp [hx]
    have hsame : h.f = r.f ∧ h.a = r.x := ⟨hf.symm, hx.symm⟩
    have H := Lib.hid (show hearR c r h now = r by unfold hearR; rw [if_neg (by omega), if_neg (by omega), if_neg (by omega), hM, if_neg (by omega)])
    rw [H.out]
    clear H
    try clear hsame
    try clear hf
    try clear hx
    try clear hs
    try clear hq
    try clear hl
    try clear hM
    go_enter Tryz.func90, Tryz.ntmps90
    go_wp2_with fail
    refine bodyPost_ret (vad (g := w.heap.size + 1 + 1 + 1) (R := r) rfl rfl (Blk.new3 w _ _ _ _ _)) rfl ⟨rfl, ((((Kp.refl _).alloc _).alloc _).alloc _).alloc _⟩
   ·have ex : ((r.x : Int) == (h.a : Int)) = false := by simp; omega
    have hsame : ¬ (h.f = r.f ∧ h.a = r.x) := fun z => hx z.2.symm
    have H := Lib.hid (show hearR c r h now = r by unfold hearR; rw [if_neg (by omega), if_neg (by omega), if_neg (by omega), hM, if_neg (by omega)])
    rw [H.out]
    clear H
    try clear hsame
    try clear hf
    try clear hx
    try clear hs
    try clear hq
    try clear hl
    try clear hM
    go_enter Tryz.func90, Tryz.ntmps90
    go_wp2_with fail
    refine bodyPost_ret (vad (g := w.heap.size + 1 + 1 + 1) (R := r) rfl rfl (Blk.new3 w _ _ _ _ _)) rfl ⟨rfl, ((((Kp.refl _).alloc _).alloc _).alloc _).alloc _⟩
  ·have ef : (r.f == h.f) = false := by simp [hf]
   have hsame : ¬ (h.f = r.f ∧ h.a = r.x) := fun z => hf z.1.symm
   have H := Lib.hid (show hearR c r h now = r by unfold hearR; rw [if_neg (by omega), if_neg (by omega), if_neg (by omega), hM, if_neg (by omega)])
   rw [H.out]
   clear H
   try clear hsame
   try clear hf
   try clear hx
   try clear hs
   try clear hq
   try clear hl
   try clear hM
   go_enter Tryz.func90, Tryz.ntmps90
   go_wp2_with fail
   refine bodyPost_ret (vad (g := w.heap.size + 1 + 1 + 1) (R := r) rfl rfl (Blk.new3 w _ _ _ _ _)) rfl ⟨rfl, ((((Kp.refl _).alloc _).alloc _).alloc _).alloc _⟩
theorem vfE (c : Cf) (A : Option Addr) (n m : Nat) (r : Rt) (h : Hd) (now : Int) (w : World) (hs : r.s = 0 ∨ r.s = 1 ∨ r.s = 2 ∨ r.s = 3 ∨ r.s = 4) (hm0 : 1 ≤ h.m) (hm1 : h.m ≤ 16) (hn0 : 0 ≤ now) (hn1 : now ≤ 4611686018426387904) (ht0 : 0 ≤ c.t2) (ht1 : c.t2 ≤ 1000000) (hu0 : 0 ≤ c.t3) (hu1 : c.t3 ≤ 1000000) :
  Calls Tryz.prog 90 #[cfV c A n m, roV r, .agg #[.int .i64 h.f, .int .u32 (h.a : Int), .int .i64 h.m], .int .i64 now] w fun e w' => e = .returned (roV (hearR c r h now)) ∧ Kp w w' := by
 rcases hs with hs | hs | hs | hs | hs
 ·exact vhh c A n m r h now w hs hm0 hm1 hn0 hn1 ht0 ht1 hu0 hu1
 ·exact vhi c A n m r h now w hs hm0 hm1 hn0 hn1 ht0 ht1 hu0 hu1
 ·exact vhj c A n m r h now w hs hm0 hm1 hn0 hn1 ht0 ht1 hu0 hu1
 ·exact vhk c A n m r h now w hs hm0 hm1 hn0 hn1 ht0 ht1 hu0 hu1
 ·exact vhl c A n m r h now w hs hm0 hm1 hn0 hn1 ht0 ht1 hu0 hu1
end

end Go.Proofs.YtffckpkikdlbpaaGreatDoor
