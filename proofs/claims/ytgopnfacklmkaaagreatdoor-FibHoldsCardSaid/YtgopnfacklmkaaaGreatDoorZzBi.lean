/- Lemmas and contracts for the theorem of this claim: FSm, Wk, Ord, OrdV, OrdW, OrdX, OrdI. -/
import Derived.Test.YtgopnfacklmkaaaGreatDoorZzBg
import Derived.Test.YtgopnfacklmkaaaGreatDoorZzBh
import Derived.RegionTactic
set_option linter.all false
set_option maxHeartbeats 16000000
namespace Go.Proofs.YtgopnfacklmkaaaGreatDoor
section
open Go.RowKit
attribute [local go_sem] Oper.semAt_some
def sameL (L M : List Hp) : Bool := decide (L = M)
theorem vmJ {L M : List Hp} (h : ¬ L.length = M.length) : sameL L M = false := by
 unfold sameL; simp only [decide_eq_false_iff_not]; intro e; exact h (by rw [e])
theorem vmK {L M : List Hp} (hl : L.length = M.length) (h : ∀ j (h1 : j < L.length) (h2 : j < M.length), L[j] = M[j]) : sameL L M = true := by
 unfold sameL; simp only [decide_eq_true_eq]; exact List.ext_getElem hl h
theorem vop {L M : List Hp} {j : Nat} (h1 : j < L.length) (h2 : j < M.length) (h : ¬ L[j] = M[j]) : sameL L M = false := by
 unfold sameL; simp only [decide_eq_false_iff_not]; intro e; subst e; exact h rfl
set_option maxRecDepth 100000 in
theorem voq (A1 : Option Addr) (c1 : Nat) (L : List Hp) (A2 : Option Addr) (c2 : Nat) (M : List Hp) (w : World) (h1 : Rd w 6 Hp.enc A1 L) (h2 : Rd w 6 Hp.enc A2 M) (hn1 : L.length ≤ 1000000) (hn2 : M.length ≤ 1000000) :
  Calls Tryz.prog 83 #[.slice A1 L.length c1, .slice A2 M.length c2] w fun e w' => e = .returned (.bool (sameL L M)) ∧ Kp w w' := by
 have H1 := Lib.hid h1
 have H2 := Lib.hid h2
 clear h1 h2
 obtain ⟨R, hR⟩ : ∃ R, sameL L M = R := ⟨_, rfl⟩
 rw [hR]
 have HR := Lib.hid hR; clear hR
 by_cases hl : L.length = M.length
 ·have Hl := Lib.hid hl
  rw [← hl]
  clear hl
  go_enter Tryz.func83, Tryz.ntmps83
  go_wp2_with fail
  go_loopw [13] (fun i wr => ∃ k : Nat, k ≤ L.length ∧ i = .int .i64 k ∧ Hid (Kp w wr) ∧ Hid (∀ j (h1 : j < L.length) (h2 : j < M.length), j < k → L[j] = M[j])) (fun i _ => L.length - (intOf i).toNat)
  case atStart => exact ⟨0, Nat.zero_le _, rfl, Kp.refl _, fun _ _ _ h => absurd h (by omega)⟩
  case round =>
   obtain ⟨k, hk, rfl, hK, hall⟩ := hrel
   by_cases hlt : k < L.length
   ·have hlt2 : k < M.length := by rw [← Hl.out]; exact hlt
    obtain ⟨b, off, hA, g0, g1, g2, g3, g4, g5⟩ := vda (H1.out.keep hK.out) hlt
    obtain ⟨b', off', hA', k0, k1, k2, k3, k4, k5⟩ := vda (H2.out.keep hK.out) hlt2
    subst hA hA'
    have hne0 := fun w => voo w L[k] M[k]
    have Hno := Lib.hid (vop hlt hlt2)
    obtain ⟨x, hx⟩ : ∃ x, L[k] = x := ⟨_, rfl⟩
    obtain ⟨y, hy⟩ : ∃ y, M[k] = y := ⟨_, rfl⟩
    rw [hx] at g0 g1 g2 g3 g4 g5
    rw [hy] at k0 k1 k2 k3 k4 k5
    rw [hx, hy] at hne0 Hno
    unfold hopV at hne0
    by_cases he : x = y
    ·have hne : ∀ w, (binOp .neq 89 (.agg #[.int .u32 x.p.a, .int .i64 x.p.l, .bool x.d, .int .i64 x.f, .int .u32 x.x, .int .i64 x.m]) (.agg #[.int .u32 y.p.a, .int .i64 y.p.l, .bool y.d, .int .i64 y.f, .int .u32 y.x, .int .i64 y.m])).run Tryz.prog w = .ok (.bool false) w := fun w => by rw [hne0]; simp [he]
     have Hnx : Hid (∀ j (h1 : j < L.length) (h2 : j < M.length), j < k + 1 → L[j] = M[j]) := fun j h1 h2 h3 => by
      rcases Nat.lt_or_ge j k with h4 | h4
      ·exact hall.out j h1 h2 h4
      ·obtain rfl : j = k := by omega
       rw [hx, hy]; exact he
     clear he hne0 hx hy
     go_wp2_with fail
     go_quiet (fail)
     go_wp2_with fail
     go_roundw
     case rel => exact ⟨k + 1, by omega, by go_num, hK.out.drewN _, Hnx⟩
     case measure => simp [intOf]; omega
    ·have hne : ∀ w, (binOp .neq 89 (.agg #[.int .u32 x.p.a, .int .i64 x.p.l, .bool x.d, .int .i64 x.f, .int .u32 x.x, .int .i64 x.m]) (.agg #[.int .u32 y.p.a, .int .i64 y.p.l, .bool y.d, .int .i64 y.f, .int .u32 y.x, .int .i64 y.m])).run Tryz.prog w = .ok (.bool true) w := fun w => by rw [hne0]; simp [he]
     obtain rfl : R = false := by rw [← HR.out]; exact Hno.out he
     clear he hne0 hx hy
     go_wp2_with fail
     go_quiet (fail)
     go_wp2_with fail
     go_ret
     exact ⟨rfl, hK.out.drewN _⟩
   ·obtain rfl : k = L.length := by omega
    obtain rfl : R = true := by rw [← HR.out]; exact vmK Hl.out (fun j h1 h2 => hall.out j h1 h2 h1)
    go_wp2_with fail
    go_ret
    exact ⟨rfl, hK.out⟩
 ·obtain rfl : R = false := by rw [← HR.out]; exact vmJ hl
  have hne : ((L.length : Int) != (M.length : Int)) = true := by simp; omega
  clear hl HR
  go_enter Tryz.func83, Tryz.ntmps83
  go_wp2_with fail
  go_ret
  exact ⟨rfl, Kp.refl _⟩
set_option maxRecDepth 100000 in
theorem vkK (f : Nat) (F : List Nat) (L : List Hp) (g : Nat) (G : List Nat) (M : List Hp) (w : World) (hM : FM w f F L) (hN : FM w g G M) :
  Calls Tryz.prog 30 #[.pointer (some ⟨f, 0, none⟩), .pointer (some ⟨g, 0, none⟩)] w fun e w' => e = .returned (.bool (sameL L M)) ∧ Kp w w' := by
 obtain ⟨tr, x, hB⟩ := hM.none
 obtain ⟨tr2, x2, hB2⟩ := hN.none
 have hl1 := hM.up.2
 have hl2 := hN.up.2
 have HM := Lib.hid hM
 have HN := Lib.hid hN
 have HB := Lib.hid hB
 have HB2 := Lib.hid hB2
 clear hM hN hB hB2
 obtain ⟨R, hR⟩ : ∃ R, sameL L M = R := ⟨_, rfl⟩
 rw [hR]
 have HR := Lib.hid hR; clear hR
 go_enter Tryz.func30, Tryz.ntmps30
 go_wp2_with fail
 refine (vbq f tr x _ HB.out).mono ?_
 rintro e w' ⟨rfl, rfl⟩
 go_wp2_with fail
 refine (vbq g tr2 x2 _ HB2.out).mono ?_
 rintro e w' ⟨rfl, rfl⟩
 go_wp2_with fail
 refine (vfT f F L w HM.out).mono ?_
 rintro e w1 ⟨A1, c1, rfl, hR1, hK1, _⟩
 have HR1 := Lib.hid hR1; clear hR1
 go_wp2_with fail
 refine (vfT g G M w1 (HN.out.keep hK1)).mono ?_
 rintro e w2 ⟨A2, c2, rfl, hR2, hK2, _⟩
 have HR2 := Lib.hid hR2; clear hR2
 go_wp2_with fail
 refine (voq A1 c1 L A2 c2 M w2 (HR1.out.keep hK2) HR2.out (by omega) (by omega)).mono ?_
 rintro e w3 ⟨rfl, hK3⟩
 rw [HR.out]
 go_wp2_with fail
 go_ret
 exact ⟨rfl, (hK1.trans hK2).trans hK3⟩
attribute [local go_sem] Oper.semAt_some
def wr1 : Rt := ⟨⟨167772160, 8⟩, 1, 1, 0, 0, 0, 0, true⟩
def wr2 : Rt := ⟨⟨167837696, 16⟩, 2, 3, 0, 1, 167772674, 9, false⟩
def wr3 : Rt := ⟨⟨167837696, 16⟩, 3, 16, 3, 1, 167772674, 9, false⟩
def wh1 : Hp := ⟨⟨167772160, 8⟩, true, 0, 0, 1⟩
def wh2 : Hp := ⟨⟨167837696, 16⟩, false, 1, 167772674, 3⟩
theorem wl1 : runL [wr1, wr2] [] = [wh1, wh2] := by decide +kernel
theorem wn1 : runN [wr1, wr2] [] = 2 := by decide +kernel
theorem we1 : runE [wr1, wr2] [] = 0 := by decide +kernel
theorem wf1 : foundH 167838211 [wh1, wh2] = (wh2, true) := by decide +kernel
theorem wf2 : foundH 167903232 [wh1, wh2] = (wh1, true) := by decide +kernel
theorem wf3 : foundH 184549376 [wh1, wh2] = (hop0, false) := by decide +kernel
theorem wl3 : runL [wr3] [wh1, wh2] = [wh1] := by decide +kernel
theorem wn3 : runN [wr3] [wh1, wh2] = 1 := by decide +kernel
theorem we3 : runE [wr3] [wh1, wh2] = 0 := by decide +kernel
theorem wf4 : foundH 167838211 [wh1] = (wh1, true) := by decide +kernel
set_option maxRecDepth 100000 in
theorem vor (q l : Int) (w : World) : Calls Tryz.prog 74 #[.agg #[.int .u32 q, .int .i64 l]] w fun e w' => e = .returned (.agg #[.int .u32 q, .int .i64 l, .int .i64 1, .int .i64 1, .int .i64 0, .int .i64 0, .int .u32 0, .int .i64 0, .bool true]) ∧ Kp w w' := by
 go_enter Tryz.func74, Tryz.ntmps74
 go_wp2_with fail
 refine bodyPost_ret (v := .agg #[.int .u32 q, .int .i64 l, .int .i64 1, .int .i64 1, .int .i64 0, .int .i64 0, .int .u32 0, .int .i64 0, .bool true]) (by simp [results, Tryz.results74, go_sem]) rfl ⟨rfl, ?_⟩
 exact ((Kp.refl _).alloc _).alloc _
theorem vdY (n : Int) (w : World) : Calls Tryz.prog 23 #[.int .i64 n] w fun e w' => e = .returned (.int .i64 n) ∧ w = w' := by
 go_enter Tryz.func23, Tryz.ntmps23
 go_wp2_with fail
 go_ret
 exact ⟨rfl, rfl⟩
theorem wq1 (w : World) : (binOp .eql 89 (.agg #[.int .u32 167837696, .int .i64 16, .bool false, .int .i64 1, .int .u32 167772674, .int .i64 3]) (.agg #[.int .u32 167837696, .int .i64 16, .bool false, .int .i64 1, .int .u32 167772674, .int .i64 3])).run Tryz.prog w = .ok (.bool true) w := by kernel_rfl
theorem wq2 (w : World) : (binOp .eql 89 (.agg #[.int .u32 167772160, .int .i64 8, .bool true, .int .i64 0, .int .u32 0, .int .i64 1]) (.agg #[.int .u32 167772160, .int .i64 8, .bool true, .int .i64 0, .int .u32 0, .int .i64 1])).run Tryz.prog w = .ok (.bool true) w := by kernel_rfl
theorem hv1 : hopV wh1 = .agg #[.int .u32 167772160, .int .i64 8, .bool true, .int .i64 0, .int .u32 0, .int .i64 1] := rfl
theorem hv2 : hopV wh2 = .agg #[.int .u32 167837696, .int .i64 16, .bool false, .int .i64 1, .int .u32 167772674, .int .i64 3] := rfl
theorem hv0 : hopV hop0 = .agg #[.int .u32 0, .int .i64 0, .bool false, .int .i64 0, .int .u32 0, .int .i64 0] := rfl
theorem FT.open {w w' : World} {f : Nat} {F : List Nat} {L : List Hp} (h : FT w w' f F L) (hG : RelsAt w) (hGn : 3 ∉ F) : ∃ F', FM w' f F' L ∧ Only F w w' ∧ (∀ b ∈ F', b ∈ F ∨ w.heap.size ≤ b) ∧ RelsAt w' ∧ 3 ∉ F' := by
 obtain ⟨F', h1, h2, h3⟩ := h
 refine ⟨F', h1, h2, h3, hG.only h2 hGn, fun hc => ?_⟩
 rcases h3 _ hc with e | e
 ·exact hGn e
 ·have := vgC hG; omega
theorem Rd.one (w : World) (r : Rt) : Rd (w.alloc (.cells r.enc.toArray 52)) 9 Rt.enc (some ⟨w.heap.size, 0, none⟩) [r] := Rd.of_blk (Blk.new w _ _) (by omega) Rt.len (by unfold maxLen; simp) (by simp)
theorem Rd.one1 (w : World) (o : Obj) (r : Rt) : Rd ((w.alloc o).alloc (.cells r.enc.toArray 52)) 9 Rt.enc (some ⟨w.heap.size + 1, 0, none⟩) [r] := Rd.of_blk (Blk.new1 w _ _ _) (by omega) Rt.len (by unfold maxLen; simp) (by simp)
theorem Rd.two (w : World) (r s : Rt) : Rd (w.alloc (.cells (r.enc ++ s.enc).toArray 52)) 9 Rt.enc (some ⟨w.heap.size, 0, none⟩) [r, s] := Rd.of_blk (Blk.new w _ _) (by omega) Rt.len (by unfold maxLen; simp) (by simp)
set_option maxRecDepth 100000 in
theorem vkL (w : World) (hG : RelsAt w) : Calls Tryz.prog 21 #[] w fun e w' => e = .returned (.bool true) ∧ Kp w w' := by
 have HG := Lib.hid hG
 clear hG
 go_enter Tryz.func21, Tryz.ntmps21
 go_wp2_with fail
 refine (vho w).mono ?_
 rintro e w1 ⟨f, F, rfl, hM, hK, hF⟩
 have hlF := hM.lt
 have hGn : 3 ∉ F := fun hc => by have := hF _ hc; have := vgC HG.out; omega
 obtain ⟨W, hW, kW, B0, B1⟩ : ∃ W, (w1.alloc (.cells #[.int .u32 167772160, .int .i64 8] 39)).alloc (.cells #[.int .u32 167837696, .int .i64 16] 39) = W ∧ Kp w1 W ∧ Blk W w1.heap.size 39 #[.int .u32 167772160, .int .i64 8] ∧ Blk W (w1.heap.size + 1) 39 #[.int .u32 167837696, .int .i64 16] := ⟨_, rfl, ((Kp.refl _).alloc _).alloc _, (Blk.new w1 _ _).alloc _, Blk.new1 w1 _ _ _⟩
 have a0 : W.cell? ⟨w1.heap.size, 0, none⟩ = some (.int .u32 167772160) := B0.cell 0
 have a1 : W.cell? ⟨w1.heap.size, 1, none⟩ = some (.int .i64 8) := B0.cell 1
 have a2 : W.cell? ⟨w1.heap.size + 1, 0, none⟩ = some (.int .u32 167837696) := B1.cell 0
 have a3 : W.cell? ⟨w1.heap.size + 1, 1, none⟩ = some (.int .i64 16) := B1.cell 1
 have HM := Lib.hid (hM.keep kW)
 have HGW := Lib.hid (HG.out.keep (hK.trans kW))
 have HGn := Lib.hid hGn
 have HlF := Lib.hid hlF
 have HF := Lib.hid hF
 clear hM hGn hlF hF
 go_wp2_with fail
 have hb0 : w1.heap.size ∉ F := fun hc => by have := HlF.out _ hc; omega
 have hb1 : w1.heap.size + 1 ∉ F := fun hc => by have := HlF.out _ hc; omega
 have Hb0 := Lib.hid hb0
 have Hb1 := Lib.hid hb1
 clear hb0 hb1
 go_region_held3 (fun w' => w'.cell? ⟨w1.heap.size, 0, none⟩ = some (.int .u32 167772160) ∧ w'.cell? ⟨w1.heap.size, 1, none⟩ = some (.int .i64 8) ∧ w'.cell? ⟨w1.heap.size + 1, 0, none⟩ = some (.int .u32 167837696) ∧ w'.cell? ⟨w1.heap.size + 1, 1, none⟩ = some (.int .i64 16))
  (first | exact ⟨Ob.cell a0 Hb0.out, Ob.cell a1 Hb0.out, Ob.cell a2 Hb1.out, Ob.cell a3 Hb1.out⟩ | exact ⟨Ka.cell a0, Ka.cell a1, Ka.cell a2, Ka.cell a3⟩ | exact ⟨(Ka.alloc _).cell a0, (Ka.alloc _).cell a1, (Ka.alloc _).cell a2, (Ka.alloc _).cell a3⟩ | go_keep)
  (first | (go_at_call 74; refine (vor 167772160 8 _).mono ?_; rintro e wa ⟨rfl, hKa⟩; have Ka : Kp W wa := (Kp.refl W).drew.trans hKa) | (go_at_call 26; refine (vdm f F [] [wr1, wr2] (some ⟨wa.heap.size, 0, none⟩) 2 _ (HGW.out.keep (Ka.alloc _)) HGn.out (HM.out.keep (Ka.alloc _)) (Rd.two wa wr1 wr2) (fun _ a ha hc => by injection ha with ha; subst ha; have h9 : wa.heap.size < w1.heap.size := HlF.out _ hc; have := kW.size; have := Ka.size; omega) (by simp) (by simp [Rt.fits, wr1, wr2])).mono ?_; rintro e wb ⟨rfl, hT⟩; rw [wn1, we1]; rw [wl1] at hT; obtain ⟨F2, hM2, hO2, hs2, hG2, hGn2⟩ := hT.open (HGW.out.keep (Ka.alloc _)) HGn.out; have Ob : Only F W wb := (Only.of_kp (Ka.alloc _)).trans hO2))
 have B0b := B0.only Ob Hb0.out
 have B1b := B1.only Ob Hb1.out
 have kwb : Kp w wb := hO2.kp (((hK.trans kW).trans Ka).alloc _) HF.out
 have hs2' : ∀ b ∈ F2, w.heap.size ≤ b := fun b hb => by
  rcases hs2 b hb with e | e
  ·exact HF.out b e
  ·exact Nat.le_trans ((((hK.trans kW).trans Ka).alloc _).size) e
 have Hs2 := Lib.hid hs2'
 have hl1 := B1.lt
 have hn0 : w1.heap.size ∉ F2 := fun hc => by
  rcases hs2 _ hc with e | e
  ·exact Hb0.out e
  ·have := Ka.size; simp at e; omega
 have hn1 : w1.heap.size + 1 ∉ F2 := fun hc => by
  rcases hs2 _ hc with e | e
  ·exact Hb1.out e
  ·have := Ka.size; simp at e; omega
 have Hn0 := Lib.hid hn0
 have Hn1 := Lib.hid hn1
 have Hl2 := Lib.hid hM2.lt
 clear hn0 hn1 hl1
 clear a0 a1 a2 a3 hs2 hs2' hO2 hT hW
 go_wp2_with fail
 refine (vbN f F2 [wh1, wh2] 167838211 _ (hG2) (hM2) (by omega)).mono ?_
 rintro e x2 ⟨rfl, hK2⟩
 rw [wf1]
 obtain ⟨V2, hV2, kV2, BV2⟩ : ∃ V, x2.alloc (.cells #[.int .u32 167837696, .int .i64 16, .bool false, .int .i64 1, .int .u32 167772674, .int .i64 3] 89) = V ∧ Kp x2 V ∧ Blk V x2.heap.size 89 #[.int .u32 167837696, .int .i64 16, .bool false, .int .i64 1, .int .u32 167772674, .int .i64 3] := ⟨_, rfl, (Kp.refl _).alloc _, Blk.new x2 _ _⟩
 have K2 := hK2.trans kV2
 simp only [hv2]
 have hG3 := hG2.keep K2
 have hM3 := hM2.keep K2
 have hkx2 := hK2
 clear hK2 kV2 hG2 hM2
 go_wp2_with fail
 refine (vbN f F2 [wh1, wh2] 167903232 _ (hG3) (hM3) (by omega)).mono ?_
 rintro e x3 ⟨rfl, hK3⟩
 rw [wf2]
 obtain ⟨V3, hV3, kV3, BV3⟩ : ∃ V, x3.alloc (.cells #[.int .u32 167772160, .int .i64 8, .bool true, .int .i64 0, .int .u32 0, .int .i64 1] 89) = V ∧ Kp x3 V ∧ Blk V x3.heap.size 89 #[.int .u32 167772160, .int .i64 8, .bool true, .int .i64 0, .int .u32 0, .int .i64 1] := ⟨_, rfl, (Kp.refl _).alloc _, Blk.new x3 _ _⟩
 have K3 := hK3.trans kV3
 simp only [hv1]
 have hG4 := hG3.keep K3
 have hM4 := hM3.keep K3
 have hkx3 := K2.trans hK3
 clear hK3 kV3 hG3 hM3 hV2
 go_wp2_with fail
 refine (vbN f F2 [wh1, wh2] 184549376 _ (hG4) (hM4) (by omega)).mono ?_
 rintro e x4 ⟨rfl, hK4⟩
 rw [wf3]
 simp only [hv0]
 have K4 : Kp V3 (x4.alloc (.cells #[.int .u32 0, .int .i64 0, .bool false, .int .i64 0, .int .u32 0, .int .i64 0] 89)) := hK4.alloc _
 have hG5 := hG4.keep K4
 have hM5 := hM4.keep K4
 have B1c := B1b.keep ((K2.trans K3).trans K4)
 have B1d := B1b.keep ((K2.trans K3).trans hK4)
 have a2 : ∀ o, (x4.alloc o).cell? ⟨w1.heap.size + 1, 0, none⟩ = some (.int .u32 167837696) := fun o => (B1d.alloc o).cell 0
 have a3 : ∀ o, (x4.alloc o).cell? ⟨w1.heap.size + 1, 1, none⟩ = some (.int .i64 16) := fun o => (B1d.alloc o).cell 1
 clear hK4 hG4 hM4 hV3 B1d
 have HM5 := Lib.hid hM5
 have HG5 := Lib.hid hG5
 have HGn2 := Lib.hid hGn2
 have hl5 := hM5.lt
 have Hl5 := Lib.hid hl5
 clear hM5 hG5 hGn2 hl5
 go_wp2_with fail
 have k5 : ∀ o, Kp (x4.alloc (.cells #[.int .u32 0, .int .i64 0, .bool false, .int .i64 0, .int .u32 0, .int .i64 0] 89)) ((x4.alloc (.cells #[.int .u32 0, .int .i64 0, .bool false, .int .i64 0, .int .u32 0, .int .i64 0] 89)).alloc o) := fun o => (Kp.refl _).alloc o
 refine (vdm f F2 [wh1, wh2] [wr3] (some ⟨x4.heap.size + 1, 0, none⟩) 1 _ (HG5.out.keep (k5 _)) HGn2.out (HM5.out.keep (k5 _)) (Rd.one1 x4 _ wr3) (fun _ a ha hc => by injection ha with ha; subst ha; have h9 := Hl5.out _ hc; simp at h9) (by simp) (by simp [Rt.fits, wr3])).mono ?_
 rintro e wc ⟨rfl, hT⟩
 rw [wn3, we3]
 rw [wl3] at hT
 obtain ⟨F6, hM6, hO6, hs6, hG6, hGn6⟩ := hT.open (HG5.out.keep (k5 _)) HGn2.out
 have O6 : Only F2 (x4.alloc (.cells #[.int .u32 0, .int .i64 0, .bool false, .int .i64 0, .int .u32 0, .int .i64 0] 89)) wc := (Only.of_kp (k5 _)).trans hO6
 have kwv : Kp w (x4.alloc (.cells #[.int .u32 0, .int .i64 0, .bool false, .int .i64 0, .int .u32 0, .int .i64 0] 89)) := ((kwb.trans K2).trans K3).trans K4
 have kwc : Kp w wc := O6.kp kwv Hs2.out
 clear hT hO6 a2 a3 hs6
 go_wp2_with fail
 refine (vbN f F6 [wh1] 167838211 _ (hG6) (hM6) (by omega)).mono ?_
 rintro e x6 ⟨rfl, hK6⟩
 rw [wf4]
 obtain ⟨V6, hV6, kV6, BV6⟩ : ∃ V, x6.alloc (.cells #[.int .u32 167772160, .int .i64 8, .bool true, .int .i64 0, .int .u32 0, .int .i64 1] 89) = V ∧ Kp x6 V ∧ Blk V x6.heap.size 89 #[.int .u32 167772160, .int .i64 8, .bool true, .int .i64 0, .int .u32 0, .int .i64 1] := ⟨_, rfl, (Kp.refl _).alloc _, Blk.new x6 _ _⟩
 have K6 := hK6.trans kV6
 simp only [hv1]
 have kz := kwc.trans K6
 have D0 := ((B0b.keep ((K2.trans K3).trans K4)).only O6 Hn0.out).keep K6
 have D1 := ((B1b.keep ((K2.trans K3).trans K4)).only O6 Hn1.out).keep K6
 have D2 := ((BV2.keep (K3.trans K4)).only O6 (fun hc => by have h1 := Hl2.out _ hc; have := hkx2.size; omega)).keep K6
 have D3 := ((BV3.keep K4).only O6 (fun hc => by have h1 := Hl2.out _ hc; have := hkx3.size; omega)).keep K6
 have hM7 := hM6.keep K6
 have HM7 := Lib.hid hM7
 have d0 : V6.cell? ⟨w1.heap.size, 0, none⟩ = some (.int .u32 167772160) := D0.cell 0
 have d1 : V6.cell? ⟨w1.heap.size, 1, none⟩ = some (.int .i64 8) := D0.cell 1
 have g0 : V6.cell? ⟨w1.heap.size + 1, 0, none⟩ = some (.int .u32 167837696) := D1.cell 0
 have g1 : V6.cell? ⟨w1.heap.size + 1, 1, none⟩ = some (.int .i64 16) := D1.cell 1
 have p0 : V6.cell? ⟨x2.heap.size, 0, none⟩ = some (.int .u32 167837696) := D2.cell 0
 have p1 : V6.cell? ⟨x2.heap.size, 1, none⟩ = some (.int .i64 16) := D2.cell 1
 have p2 : V6.cell? ⟨x2.heap.size, 2, none⟩ = some (.bool false) := D2.cell 2
 have p3 : V6.cell? ⟨x2.heap.size, 3, none⟩ = some (.int .i64 1) := D2.cell 3
 have p4 : V6.cell? ⟨x2.heap.size, 4, none⟩ = some (.int .u32 167772674) := D2.cell 4
 have p5 : V6.cell? ⟨x2.heap.size, 5, none⟩ = some (.int .i64 3) := D2.cell 5
 have q0 : V6.cell? ⟨x3.heap.size, 0, none⟩ = some (.int .u32 167772160) := D3.cell 0
 have q1 : V6.cell? ⟨x3.heap.size, 1, none⟩ = some (.int .i64 8) := D3.cell 1
 have q2 : V6.cell? ⟨x3.heap.size, 2, none⟩ = some (.bool true) := D3.cell 2
 have q3 : V6.cell? ⟨x3.heap.size, 3, none⟩ = some (.int .i64 0) := D3.cell 3
 have q4 : V6.cell? ⟨x3.heap.size, 4, none⟩ = some (.int .u32 0) := D3.cell 4
 have q5 : V6.cell? ⟨x3.heap.size, 5, none⟩ = some (.int .i64 1) := D3.cell 5
 have r0 : V6.cell? ⟨x6.heap.size, 0, none⟩ = some (.int .u32 167772160) := BV6.cell 0
 have r1 : V6.cell? ⟨x6.heap.size, 1, none⟩ = some (.int .i64 8) := BV6.cell 1
 have r2 : V6.cell? ⟨x6.heap.size, 2, none⟩ = some (.bool true) := BV6.cell 2
 have r3 : V6.cell? ⟨x6.heap.size, 3, none⟩ = some (.int .i64 0) := BV6.cell 3
 have r4 : V6.cell? ⟨x6.heap.size, 4, none⟩ = some (.int .u32 0) := BV6.cell 4
 have r5 : V6.cell? ⟨x6.heap.size, 5, none⟩ = some (.int .i64 1) := BV6.cell 5
 have e1 := wq1
 have e2 := wq2
 clear hK6 kV6 hM7 hM6 D0 D1 D2 D3 BV6 BV2 BV3 K2 K3 K4 K6 O6 kwv kwc HM5 HG5 Hl5 k5 B1c kwb Ob Ka hKa HM HGW
 go_wp2_with fail
 refine (vdY 0 _).mono ?_
 rintro e w' ⟨rfl, rfl⟩
 go_wp2_with fail
 refine (vdY 0 _).mono ?_
 rintro e w' ⟨rfl, rfl⟩
 go_wp2_with fail
 refine (vhp f F6 [wh1] _ HM7.out).mono ?_
 rintro e w' ⟨rfl, rfl⟩
 go_wp2_with fail
 go_ret
 exact ⟨rfl, kz⟩
end

section
open Go.RowKit
def backB (md : Region.Mode) (ops : Array Oper) : Bool :=
 (List.range ops.size).all fun i => match ops[i]? with | some o => o.after.all fun e => !Region.binds md e || decide (e.on < i) | none => true
theorem vdn {md : Region.Mode} {ops : Array Oper} (h : backB md ops = true) {i : Nat} {o : Oper} (ho : ops[i]? = some o) : ∀ e ∈ o.after, Region.binds md e = true → e.on < i := by
 intro e he hb
 have hi := (Array.getElem?_eq_some_iff.1 ho).1
 have h1 := List.all_eq_true.1 h i (List.mem_range.2 hi)
 rw [ho] at h1
 simp only at h1
 have h2 := Array.all_eq_true_iff_forall_mem.1 h1 e he
 simpa [hb] using h2
section
variable {P : Program} {md : Region.Mode} {ops : Array Oper} {Q : Exit → Act → World → Prop}
theorem vfU {listed : Array Bool} (hb : backB md ops = true) (hs : listed.size = ops.size) (hr : Region.ready md ops listed = []) : ∀ i, i < ops.size → listed.getD i false = true := by
 intro i
 induction i using Nat.strongRecOn with
 | _ i ih =>
  intro hi
  cases hl : listed.getD i false with
  | true => rfl
  | false =>
   have h1 : i ∈ Region.ready md ops listed := by
    refine mem_ready.2 ⟨?_, ops[i], Array.getElem?_eq_getElem hi, fun e he hbi => ?_⟩
    ·have : i < listed.size := by omega
     simp only [Array.getD_eq_getD_getElem?, Array.getElem?_eq_getElem this, Option.getD_some] at hl ⊢
     exact hl
    ·have h2 := vdn hb (Array.getElem?_eq_getElem hi) e he hbi
     exact ih e.on h2 (by omega)
   rw [hr] at h1
   cases h1
theorem vfV (G : (Nat → Bool) → Act → World → Prop) (hb : backB md ops = true)
  (step : ∀ (i : Nat) (o : Oper) (L : Nat → Bool) (a : Act) (w : World), ops[i]? = some o → L i = false → (∀ e ∈ o.after, Region.binds md e = true → L e.on = true) → G L a w →
   ∀ K : Act → World → Prop, (∀ a' w', G (fun j => j == i || L j) a' w' → K a' w') → if Region.wanted o (yielded ops a.tmps) = true then Oper.wp P o a w K Q else K (a.put o.dst undef) w)
  (fin : ∀ L a w, (∀ i, i < ops.size → L i = true) → G L a w → Q .normal a w) :
  ∀ (fuel : Nat) (listed : Array Bool) (a : Act) (w : World), listed.size = ops.size → listed.toList.countP (fun b => !b) ≤ fuel → G (fun j => listed.getD j false) a w → wpAny P md ops Q fuel listed a w := by
 intro fuel
 induction fuel with
 | zero =>
  intro listed a w hs hc hG
  have hall : ∀ i, i < ops.size → listed.getD i false = true := by
   intro i hi
   have h0 := List.countP_eq_zero.1 (Nat.le_zero.1 hc)
   have hi' : i < listed.size := by omega
   have := h0 listed[i] (by rw [Array.mem_toList_iff]; exact Array.getElem_mem hi')
   simp only [Array.getD_eq_getD_getElem?, Array.getElem?_eq_getElem hi', Option.getD_some]
   simpa using this
  refine ⟨?_, fin _ _ _ hall hG⟩
  refine List.eq_nil_iff_forall_not_mem.2 fun j hj => ?_
  obtain ⟨h1, o, ho, _⟩ := mem_ready.1 hj
  have hlt := (Array.getElem?_eq_some_iff.1 ho).1
  have h2 := hall j hlt
  have hj' : j < listed.size := by omega
  simp only [Array.getD_eq_getD_getElem?, Array.getElem?_eq_getElem hj', Option.getD_some] at h1 h2
  rw [h1] at h2
  cases h2
 | succ fuel ih =>
  intro listed a w hs hc hG
  refine ⟨fun hr => fin _ _ _ (vfU hb hs hr) hG, fun i hi => ?_⟩
  obtain ⟨h1, o, ho, hdep⟩ := mem_ready.1 hi
  have hlt := (Array.getElem?_eq_some_iff.1 ho).1
  have hi' : i < listed.size := by omega
  have hli : listed[i] = false := by
   simpa only [Array.getD_eq_getD_getElem?, Array.getElem?_eq_getElem hi', Option.getD_some] using h1
  have hLi : (fun j => listed.getD j false) i = false := by
   simp only [Array.getD_eq_getD_getElem?, Array.getElem?_eq_getElem hi', Option.getD_some]; exact hli
  refine wpOp_step ho (fun K hK => step i o _ a w ho hLi hdep hG K (fun a' w' hG' => hK a' w' (ih _ a' w' (by simpa using hs) ?_ ?_)))
  ·have hset : (listed.setIfInBounds i true).toList = listed.toList.set i true := by simp
   have hl2 : i < listed.toList.length := by simpa using hi'
   rw [hset, List.countP_set hl2]
   have : listed.toList[i] = false := by simpa using hli
   rw [this]
   have hpos : 0 < listed.toList.countP (fun b => !b) := List.countP_pos_iff.2 ⟨false, by rw [← this]; exact List.getElem_mem hl2, rfl⟩
   have hc2 := hc
   simp only [Bool.not_false, if_true, Bool.not_true]
   rw [if_neg (by simp)]
   omega
  ·have e : (fun j => (listed.setIfInBounds i true).getD j false) = (fun j => j == i || listed.getD j false) := by
    funext j
    by_cases hj : j = i
    ·subst hj
     simp [Array.getD_eq_getD_getElem?, hi']
    ·have : (j == i) = false := by simpa using hj
     rw [this, Bool.false_or]
     simp only [Array.getD_eq_getD_getElem?]
     rw [Array.getElem?_setIfInBounds_ne (fun h => hj h.symm)]
   rw [e]
   exact hG'
end
theorem vcF {P : Program} {id : Nat} {Q : Exit → Act → World → Prop} {a : Act} {w : World} {l : List Oper} (hm : P.follows .mixedOrders = true) (G : (Nat → Bool) → Act → World → Prop) (hb : backB .any l.toArray = true)
  (step : ∀ (i : Nat) (o : Oper) (L : Nat → Bool) (a : Act) (w : World), l[i]? = some o → L i = false → (∀ e ∈ o.after, Region.binds .any e = true → L e.on = true) → G L a w →
   ∀ K : Act → World → Prop, (∀ a' w', G (fun j => j == i || L j) a' w' → K a' w') → if Region.wanted o (yielded l.toArray a.tmps) = true then Oper.wp P o a w K Q else K (a.put o.dst undef) w)
  (fin : ∀ L a w, (∀ i, i < l.length → L i = true) → G L a w → Q .normal a w) (h0 : G (fun _ => false) a w.drew) : (Code.region id l.toArray true).wp P Q a w := by
 refine wp_region_any hm (vfV G hb (fun i o L a w ho => step i o L a w (by simpa using ho)) (fun L a w h => fin L a w (by simpa using h)) _ _ _ _ (by simp) ?_ ?_)
 ·have : (Array.replicate l.toArray.size false).toList.countP (fun b => !b) ≤ (Array.replicate l.toArray.size false).toList.length := List.countP_le_length
  simpa using this
 ·have e : (fun j => (Array.replicate l.toArray.size false).getD j false) = (fun _ => false) := by
   funext j
   simp only [Array.getD_eq_getD_getElem?]
   by_cases hj : j < l.toArray.size
   ·rw [Array.getElem?_eq_getElem (by simpa using hj)]; simp
   ·rw [Array.getElem?_eq_none (by simpa using hj)]; rfl
  rw [e]
  exact h0
end

section
open Go.RowKit
structure RV (W : World) (a0 : Act) (sl : List Nat) (v : List Value) (L : Nat → Bool) (a : Act) (w : World) : Prop where
 kp : Kp W w
 df : a.defers = a0.defers
 sz : a.tmps.size = a0.tmps.size
 old : ∀ j, j ∉ sl → a.tmps.getD j undef = a0.tmps.getD j undef
 new : ∀ i, L i = true → ∀ k, sl[i]? = some k → a.tmps.getD k undef = v.getD i undef
theorem RV.start (W : World) (a0 : Act) (sl : List Nat) (v : List Value) : RV W a0 sl v (fun _ => false) a0 W.drew :=
 ⟨(Kp.refl W).drew, rfl, rfl, fun _ _ => rfl, fun _ h => by cases h⟩
theorem RV.put {W w w' : World} {a0 a : Act} {sl : List Nat} {v : List Value} {L : Nat → Bool} (h : RV W a0 sl v L a w) (i k : Nat) (hi : sl[i]? = some k) (hn : sl.Nodup) (hk : k < a0.tmps.size) (kp : Kp w w') {u : Value} (hu : v.getD i undef = u) : RV W a0 sl v (fun j => j == i || L j) (a.put (some k) u) w' := by
 subst hu
 have hks : k < a.tmps.size := by rw [h.sz]; exact hk
 have hg : ∀ j, (a.tmps.setIfInBounds k (v.getD i undef)).getD j undef = if j = k then v.getD i undef else a.tmps.getD j undef := fun j => by
  by_cases e : j = k
  ·subst e
   rw [if_pos rfl]
   simp [Array.getD_eq_getD_getElem?, hks]
  ·rw [if_neg e]
   simp only [Array.getD_eq_getD_getElem?]
   rw [Array.getElem?_setIfInBounds_ne (fun z => e z.symm)]
 refine ⟨h.kp.trans kp, h.df, by simpa [Act.put] using h.sz, fun j hj => ?_, fun j hj m hm => ?_⟩
 ·show (a.tmps.setIfInBounds k (v.getD i undef)).getD j undef = _
  rw [hg, if_neg (fun e => hj (by rw [e]; exact List.mem_of_getElem? hi))]
  exact h.old j hj
 ·show (a.tmps.setIfInBounds k (v.getD i undef)).getD m undef = _
  rw [hg]
  by_cases e : j = i
  ·subst e
   rw [hi] at hm
   injection hm with hm
   rw [if_pos hm.symm]
  ·have hne : m ≠ k := fun z => by
    subst z
    obtain ⟨h1, h2⟩ := List.getElem?_eq_some_iff.1 hi
    obtain ⟨h3, h4⟩ := List.getElem?_eq_some_iff.1 hm
    have hp := List.pairwise_iff_getElem.1 hn
    rcases Nat.lt_or_ge j i with hl | hl
    ·exact hp j i h3 h1 hl (by rw [h2, h4])
    ·exact hp i j h1 h3 (by omega) (by rw [h2, h4])
   rw [if_neg hne]
   refine h.new j ?_ m hm
   simpa [e] using hj
theorem vdZ {t : Array Value} {k : Nat} {v : Value} (h : t.getD k undef = v) : t[k]?.getD undef = v := by rw [← h, Array.getD_eq_getD_getElem?]
theorem vez {ops : Array Oper} {o : Oper} {t : Array Value} (hg : o.guard = none) : Region.wanted o (yielded ops t) = true := by
 unfold Region.wanted
 rw [hg]
theorem vos {id : Nat} {P : Program} {Q : Exit → Act → World → Prop} {a0 : Act} {w : World} {l : List Oper} (sl : List Nat) (v : List Value) (hm : P.follows .mixedOrders = true) (hb : backB .any l.toArray = true)
  (step : ∀ (i : Nat) (o : Oper) (L : Nat → Bool) (a : Act) (w' : World), l[i]? = some o → (∀ j, j ∈ o.after.toList.map (·.on) → (∀ e ∈ o.after.toList, e.on = j → Region.binds .any e = true) → L j = true) → RV w a0 sl v L a w' →
   ∀ K : Act → World → Prop, (∀ a' w', RV w a0 sl v (fun j => j == i || L j) a' w' → K a' w') → if Region.wanted o (yielded l.toArray a.tmps) = true then Oper.wp P o a w' K Q else K (a.put o.dst undef) w')
  (fin : ∀ a w', Kp w w' → a.defers = a0.defers → a.tmps.size = a0.tmps.size → (∀ j, j ∉ sl → a.tmps.getD j undef = a0.tmps.getD j undef) → (∀ i, i < l.length → ∀ k, sl[i]? = some k → a.tmps.getD k undef = v.getD i undef) → Q .normal a w') : (Code.region id l.toArray true).wp P Q a0 w :=
 vcF hm (RV w a0 sl v) hb (fun i o L a w' ho _ hd hG K hK => step i o L a w' ho (fun j hj hb => by
  obtain ⟨e, he, rfl⟩ := List.mem_map.1 hj
  exact hd e (Array.mem_toList_iff.1 he) (hb e he rfl)) hG K hK) (fun L a w' hL hG => fin a w' hG.kp hG.df hG.sz hG.old (fun i hi => hG.new i (hL i hi))) (RV.start w a0 sl v)
def wrS (t : Array Value) (zs : List (Nat × Value)) : Array Value := zs.foldl (fun t z => t.setIfInBounds z.1 z.2) t
theorem vhv : ∀ (zs : List (Nat × Value)) (t : Array Value), (wrS t zs).size = t.size
 | [], _ => rfl
 | z :: zs, t => by
  show (wrS (t.setIfInBounds z.1 z.2) zs).size = t.size
  rw [vhv zs, Array.size_setIfInBounds]
theorem vcG {j : Nat} : ∀ (zs : List (Nat × Value)) (t : Array Value), (∀ z ∈ zs, z.1 ≠ j) → (wrS t zs)[j]? = t[j]?
 | [], _, _ => rfl
 | z :: zs, t, h => by
  show (wrS (t.setIfInBounds z.1 z.2) zs)[j]? = t[j]?
  rw [vcG zs _ (fun y hy => h y (List.mem_cons_of_mem _ hy)), Array.getElem?_setIfInBounds_ne (h z List.mem_cons_self)]
theorem vkM : ∀ (zs : List (Nat × Value)) (t : Array Value), (zs.map Prod.fst).Nodup → ∀ z ∈ zs, z.1 < t.size → (wrS t zs)[z.1]? = some z.2
 | x :: zs, t, hn, z, hz, hlt => by
  show (wrS (t.setIfInBounds x.1 x.2) zs)[z.1]? = some z.2
  rw [List.map_cons, List.nodup_cons] at hn
  rcases List.mem_cons.1 hz with rfl | hz
  ·rw [vcG zs _ (fun y hy e => hn.1 (List.mem_map.2 ⟨y, hy, e⟩))]
   simp [hlt]
  ·exact vkM zs _ hn.2 z hz (by simpa using hlt)
theorem vkN {a a0 : Act} {sl : List Nat} {v : List Value} (hl : sl.length = v.length) (hn : sl.Nodup) (hdf : a.defers = a0.defers) (hsz : a.tmps.size = a0.tmps.size)
  (hold : ∀ j, j ∉ sl → a.tmps.getD j undef = a0.tmps.getD j undef) (hnew : ∀ i, i < sl.length → ∀ k, sl[i]? = some k → a.tmps.getD k undef = v.getD i undef) : a = { tmps := wrS a0.tmps (sl.zip v), defers := a0.defers } := by
 have ht : a.tmps = wrS a0.tmps (sl.zip v) := by
  refine Array.ext (by rw [hsz]; exact (vhv _ _).symm) (fun j h1 h2 => ?_)
  by_cases hj : j ∈ sl
  ·obtain ⟨i, hi, e⟩ := List.mem_iff_getElem.1 hj
   have h3 := hnew i hi j (by rw [List.getElem?_eq_getElem hi, e])
   have hiv : i < v.length := by omega
   have hz : (j, v[i]) ∈ sl.zip v := List.mem_iff_getElem.2 ⟨i, by rw [List.length_zip]; omega, by rw [List.getElem_zip, e]⟩
   have h4 := vkM (sl.zip v) a0.tmps (by rw [List.map_fst_zip (by omega)]; exact hn) (j, v[i]) hz (by rw [← hsz]; exact h1)
   simp only at h4
   rw [Array.getElem?_eq_getElem h2, Option.some.injEq] at h4
   rw [h4]
   simpa [Array.getD_eq_getD_getElem?, h1, hiv] using h3
  ·have h3 := hold j hj
   have h0 : j < a0.tmps.size := by rw [← hsz]; exact h1
   have h4 := vcG (sl.zip v) a0.tmps (j := j) (fun z hz e => hj (by subst e; exact (List.of_mem_zip hz).1))
   rw [Array.getElem?_eq_getElem h2, Array.getElem?_eq_getElem h0, Option.some.injEq] at h4
   rw [h4]
   simpa [Array.getD_eq_getD_getElem?, h1, h0] using h3
 cases a
 simp only at ht hdf
 rw [ht, hdf]
structure RX (M : (Nat → Bool) → World → Prop) (a0 : Act) (sl : List Nat) (v : List Value) (L : Nat → Bool) (a : Act) (w : World) : Prop where
 m : M L w
 df : a.defers = a0.defers
 sz : a.tmps.size = a0.tmps.size
 old : ∀ j, j ∉ sl → a.tmps.getD j undef = a0.tmps.getD j undef
 new : ∀ i, L i = true → ∀ k, sl[i]? = some k → a.tmps.getD k undef = v.getD i undef
theorem RX.put {M : (Nat → Bool) → World → Prop} {w w' : World} {a0 a : Act} {sl : List Nat} {v : List Value} {L : Nat → Bool} (h : RX M a0 sl v L a w) (i k : Nat) (hi : sl[i]? = some k) (hn : sl.Nodup) (hk : k < a0.tmps.size) (hm : M (fun j => j == i || L j) w') {u : Value} (hu : v.getD i undef = u) : RX M a0 sl v (fun j => j == i || L j) (a.put (some k) u) w' := by
 have r : RV w a0 sl v L a w := ⟨Kp.refl _, h.df, h.sz, h.old, h.new⟩
 have r2 := r.put i k hi hn hk (Kp.refl _) hu
 exact ⟨hm, r2.df, r2.sz, r2.old, r2.new⟩
theorem RX.done {M : (Nat → Bool) → World → Prop} {w w' : World} {a0 a : Act} {sl : List Nat} {v : List Value} {L : Nat → Bool} (h : RX M a0 sl v L a w) (i k : Nat) (hi : sl[i]? = some k) (hn : sl.Nodup) (hk : a0.tmps.size ≤ k) (hm : M (fun j => j == i || L j) w') (hu : v.getD i undef = undef) : RX M a0 sl v (fun j => j == i || L j) (a.put none undef) w' := by
 refine ⟨hm, h.df, h.sz, h.old, fun j hj m hj2 => ?_⟩
 show a.tmps.getD m undef = _
 by_cases e : j = i
 ·subst e
  rw [hi] at hj2
  injection hj2 with hj2
  subst hj2
  rw [hu, Array.getD_eq_getD_getElem?, Array.getElem?_eq_none (by rw [h.sz]; exact hk)]
  rfl
 ·refine h.new j ?_ m hj2
  simpa [e] using hj
theorem viu {r id : Nat} {P : Program} {Q : Exit → Act → World → Prop} {a0 : Act} {w : World} {l : List Oper} (sl : List Nat) (v : List Value) (hm : P.follows .mixedOrders = true) (hb : backB .any l.toArray = true) (hnd : noDefer l.toArray = true) (hQ : ¬ LetsOut Q)
  (step : ∀ (i : Nat) (o : Oper) (L : Nat → Bool) (a : Act) (w' : World), l[i]? = some o → (∀ j, j ∈ o.after.toList.map (·.on) → (∀ e ∈ o.after.toList, e.on = j → Region.binds .any e = true) → L j = true) → RV w a0 sl v L a w' →
   ∀ K : Act → World → Prop, (∀ a' w', RV w a0 sl v (fun j => j == i || L j) a' w' → K a' w') → if Region.wanted o (yielded l.toArray a.tmps) = true then Oper.wp P o a w' K Q else K (a.put o.dst undef) w')
  (fin : ∀ a w', Kp w w' → a.defers = a0.defers → a.tmps.size = a0.tmps.size → (∀ j, j ∉ sl → a.tmps.getD j undef = a0.tmps.getD j undef) → (∀ i, i < l.length → ∀ k, sl[i]? = some k → a.tmps.getD k undef = v.getD i undef) → Q .normal a w') : (Code.region id l.toArray true).wpIn (Fence.wide.inRound r) 0 P Q a0 w := by
 refine wpIn_region_any hm (vay hQ hnd _ _ _ _ ?_)
 refine vfV (RV w a0 sl v) hb (fun i o L a w' ho _ hd hG K hK => step i o L a w' (by simpa using ho) (fun j hj hb => by
  obtain ⟨e, he, rfl⟩ := List.mem_map.1 hj
  exact hd e (Array.mem_toList_iff.1 he) (hb e he rfl)) hG K hK) (fun L a w' hL hG => ?_) _ _ _ _ (by simp) ?_ ?_
 ·exact fin a w' hG.kp hG.df hG.sz hG.old (fun i hi => hG.new i (hL i (by simpa using hi)))
 ·have : (Array.replicate l.toArray.size false).toList.countP (fun b => !b) ≤ (Array.replicate l.toArray.size false).toList.length := List.countP_le_length
  simpa using this
 ·have e : (fun j => (Array.replicate l.toArray.size false).getD j false) = (fun _ => false) := by
   funext j
   simp only [Array.getD_eq_getD_getElem?]
   by_cases hj : j < l.toArray.size
   ·rw [Array.getElem?_eq_getElem (by simpa using hj)]; simp
   ·rw [Array.getElem?_eq_none (by simpa using hj)]; rfl
  rw [e]
  exact RV.start w a0 sl v
end

end Go.Proofs.YtgopnfacklmkaaaGreatDoor
