/- layer 13's works. -/
import Derived.Test.YtfaiponmjjbgoaaDoorFbI
namespace Go.Proofs.YtfaiponmjjbgoaaDoor
open Go.RowKit
attribute [local go_sem] Oper.semAt_some

def wr1 : Rt := ⟨⟨167772160, 8⟩, 1, 1, 0, 0, 0, 0, true⟩
def wr2 : Rt := ⟨⟨167837696, 16⟩, 2, 3, 0, 1, 167772674, 9, false⟩
def wr3 : Rt := ⟨⟨167837696, 16⟩, 3, 16, 3, 1, 167772674, 9, false⟩
def wh1 : Hp := ⟨⟨167772160, 8⟩, true, 0, 0, 1⟩
def wh2 : Hp := ⟨⟨167837696, 16⟩, false, 1, 167772674, 3⟩
theorem wl1 : runL [wr1, wr2] [] = [wh1, wh2] := by decide +kernel
theorem wn1 : runN [wr1, wr2] [] = 2 := by decide +kernel
theorem we1 : runE [wr1, wr2] [] = 0 := by decide +kernel
theorem wf1 : foundH 167838211 [wh1, wh2] = (wh2, true) := by decide +kernel
theorem wf2 : foundH 167903232 [wh1, wh2] = (wh1, true) := by decide +kernel
theorem wf3 : foundH 184549376 [wh1, wh2] = (hop0, false) := by decide +kernel
theorem wl3 : runL [wr3] [wh1, wh2] = [wh1] := by decide +kernel
theorem wn3 : runN [wr3] [wh1, wh2] = 1 := by decide +kernel
theorem we3 : runE [wr3] [wh1, wh2] = 0 := by decide +kernel
theorem wf4 : foundH 167838211 [wh1] = (wh1, true) := by decide +kernel

set_option maxRecDepth 100000 in
theorem own_any (q l : Int) (w : World) : Calls Tryd.prog 9 #[.agg #[.int .u32 q, .int .i64 l]] w fun e w' => e = .returned (.agg #[.int .u32 q, .int .i64 l, .int .i64 1, .int .i64 1, .int .i64 0, .int .i64 0, .int .u32 0, .int .i64 0, .bool true]) ∧ Kp w w' := by
  go_enter Tryd.func9, Tryd.ntmps9
  go_wp2_with fail
  refine bodyPost_ret (v := .agg #[.int .u32 q, .int .i64 l, .int .i64 1, .int .i64 1, .int .i64 0, .int .i64 0, .int .u32 0, .int .i64 0, .bool true]) (by simp [results, Tryd.results9, go_sem]) rfl ⟨rfl, ?_⟩
  exact ((Kp.refl _).alloc _).alloc _
theorem num_any (n : Int) (w : World) : Calls Tryd.prog 7 #[.int .i64 n] w fun e w' => e = .returned (.int .i64 n) ∧ w = w' := by
  go_enter Tryd.func7, Tryd.ntmps7
  go_wp2_with fail
  go_ret
  exact ⟨rfl, rfl⟩

theorem wq1 (w : World) : (binOp .eql 41 (.agg #[.int .u32 167837696, .int .i64 16, .bool false, .int .i64 1, .int .u32 167772674, .int .i64 3]) (.agg #[.int .u32 167837696, .int .i64 16, .bool false, .int .i64 1, .int .u32 167772674, .int .i64 3])).run Tryd.prog w = .ok (.bool true) w := by kernel_rfl
theorem wq2 (w : World) : (binOp .eql 41 (.agg #[.int .u32 167772160, .int .i64 8, .bool true, .int .i64 0, .int .u32 0, .int .i64 1]) (.agg #[.int .u32 167772160, .int .i64 8, .bool true, .int .i64 0, .int .u32 0, .int .i64 1])).run Tryd.prog w = .ok (.bool true) w := by kernel_rfl

theorem hv1 : hopV wh1 = .agg #[.int .u32 167772160, .int .i64 8, .bool true, .int .i64 0, .int .u32 0, .int .i64 1] := rfl
theorem hv2 : hopV wh2 = .agg #[.int .u32 167837696, .int .i64 16, .bool false, .int .i64 1, .int .u32 167772674, .int .i64 3] := rfl
theorem hv0 : hopV hop0 = .agg #[.int .u32 0, .int .i64 0, .bool false, .int .i64 0, .int .u32 0, .int .i64 0] := rfl
theorem FT.open {w w' : World} {f : Nat} {F : List Nat} {L : List Hp} (h : FT w w' f F L) (hG : RelsAt w) (hGn : 0 ∉ F) : ∃ F', FM w' f F' L ∧ Only F w w' ∧ (∀ b ∈ F', b ∈ F ∨ w.heap.size ≤ b) ∧ RelsAt w' ∧ 0 ∉ F' := by
  obtain ⟨F', h1, h2, h3⟩ := h
  refine ⟨F', h1, h2, h3, hG.only h2 hGn, fun hc => ?_⟩
  rcases h3 _ hc with e | e
  · exact hGn e
  · have := rels_lt hG; omega
theorem Rd.one (w : World) (r : Rt) : Rd (w.alloc (.cells r.enc.toArray 31)) 9 Rt.enc (some ⟨w.heap.size, 0, none⟩) [r] := Rd.of_blk (Blk.new w _ _) (by omega) Rt.len (by unfold maxLen; simp) (by simp)
theorem Rd.one1 (w : World) (o : Obj) (r : Rt) : Rd ((w.alloc o).alloc (.cells r.enc.toArray 31)) 9 Rt.enc (some ⟨w.heap.size + 1, 0, none⟩) [r] := Rd.of_blk (Blk.new1 w _ _ _) (by omega) Rt.len (by unfold maxLen; simp) (by simp)
theorem Rd.two (w : World) (r s : Rt) : Rd (w.alloc (.cells (r.enc ++ s.enc).toArray 31)) 9 Rt.enc (some ⟨w.heap.size, 0, none⟩) [r, s] := Rd.of_blk (Blk.new w _ _) (by omega) Rt.len (by unfold maxLen; simp) (by simp)

set_option maxRecDepth 100000 in
set_option maxHeartbeats 4000000 in
theorem works_any (w : World) (hG : RelsAt w) : Calls Tryd.prog 4 #[] w fun e w' => e = .returned (.bool true) ∧ Kp w w' := by
  have HG := Lib.hid hG
  clear hG
  go_enter Tryd.func4, Tryd.ntmps4
  go_wp2_with fail
  refine (fnew_any w).mono ?_
  rintro e w1 ⟨f, F, rfl, hM, hK, hF⟩
  have hlF := hM.lt
  have hGn : 0 ∉ F := fun hc => by have := hF _ hc; have := rels_lt HG.out; omega
  obtain ⟨W, hW, kW, B0, B1⟩ : ∃ W, (w1.alloc (.cells #[.int .u32 167772160, .int .i64 8] 29)).alloc (.cells #[.int .u32 167837696, .int .i64 16] 29) = W ∧ Kp w1 W ∧ Blk W w1.heap.size 29 #[.int .u32 167772160, .int .i64 8] ∧ Blk W (w1.heap.size + 1) 29 #[.int .u32 167837696, .int .i64 16] := ⟨_, rfl, ((Kp.refl _).alloc _).alloc _, (Blk.new w1 _ _).alloc _, Blk.new1 w1 _ _ _⟩
  have a0 : W.cell? ⟨w1.heap.size, 0, none⟩ = some (.int .u32 167772160) := B0.cell 0
  have a1 : W.cell? ⟨w1.heap.size, 1, none⟩ = some (.int .i64 8) := B0.cell 1
  have a2 : W.cell? ⟨w1.heap.size + 1, 0, none⟩ = some (.int .u32 167837696) := B1.cell 0
  have a3 : W.cell? ⟨w1.heap.size + 1, 1, none⟩ = some (.int .i64 16) := B1.cell 1
  have HM := Lib.hid (hM.keep kW)
  have HGW := Lib.hid (HG.out.keep (hK.trans kW))
  have HGn := Lib.hid hGn
  have HlF := Lib.hid hlF
  have HF := Lib.hid hF
  clear hM hGn hlF hF
  go_wp2_with fail
  have hb0 : w1.heap.size ∉ F := fun hc => by have := HlF.out _ hc; omega
  have hb1 : w1.heap.size + 1 ∉ F := fun hc => by have := HlF.out _ hc; omega
  have Hb0 := Lib.hid hb0
  have Hb1 := Lib.hid hb1
  clear hb0 hb1
  go_region_held3 (fun w' => w'.cell? ⟨w1.heap.size, 0, none⟩ = some (.int .u32 167772160) ∧ w'.cell? ⟨w1.heap.size, 1, none⟩ = some (.int .i64 8) ∧ w'.cell? ⟨w1.heap.size + 1, 0, none⟩ = some (.int .u32 167837696) ∧ w'.cell? ⟨w1.heap.size + 1, 1, none⟩ = some (.int .i64 16))
    (first | exact ⟨Ob.cell a0 Hb0.out, Ob.cell a1 Hb0.out, Ob.cell a2 Hb1.out, Ob.cell a3 Hb1.out⟩ | exact ⟨Ka.cell a0, Ka.cell a1, Ka.cell a2, Ka.cell a3⟩ | exact ⟨(Ka.alloc _).cell a0, (Ka.alloc _).cell a1, (Ka.alloc _).cell a2, (Ka.alloc _).cell a3⟩ | go_keep)
    (first | (go_at_call 9; refine (own_any 167772160 8 _).mono ?_; rintro e wa ⟨rfl, hKa⟩; have Ka : Kp W wa := (Kp.refl W).drew.trans hKa) | (go_at_call 6; refine (Come_any f F [] [wr1, wr2] (some ⟨wa.heap.size, 0, none⟩) 2 _ (HGW.out.keep (Ka.alloc _)) HGn.out (HM.out.keep (Ka.alloc _)) (Rd.two wa wr1 wr2) (fun _ a ha hc => by injection ha with ha; subst ha; have h9 : wa.heap.size < w1.heap.size := HlF.out _ hc; have := kW.size; have := Ka.size; omega) (by simp) (by simp [Rt.fits, wr1, wr2])).mono ?_; rintro e wb ⟨rfl, hT⟩; rw [wn1, we1]; rw [wl1] at hT; obtain ⟨F2, hM2, hO2, hs2, hG2, hGn2⟩ := hT.open (HGW.out.keep (Ka.alloc _)) HGn.out; have Ob : Only F W wb := (Only.of_kp (Ka.alloc _)).trans hO2))
  have B0b := B0.only Ob Hb0.out
  have B1b := B1.only Ob Hb1.out
  have kwb : Kp w wb := hO2.kp (((hK.trans kW).trans Ka).alloc _) HF.out
  have hs2' : ∀ b ∈ F2, w.heap.size ≤ b := fun b hb => by
    rcases hs2 b hb with e | e
    · exact HF.out b e
    · exact Nat.le_trans ((((hK.trans kW).trans Ka).alloc _).size) e
  have Hs2 := Lib.hid hs2'
  have hl1 := B1.lt
  have hn0 : w1.heap.size ∉ F2 := fun hc => by
    rcases hs2 _ hc with e | e
    · exact Hb0.out e
    · have := Ka.size; simp at e; omega
  have hn1 : w1.heap.size + 1 ∉ F2 := fun hc => by
    rcases hs2 _ hc with e | e
    · exact Hb1.out e
    · have := Ka.size; simp at e; omega
  have Hn0 := Lib.hid hn0
  have Hn1 := Lib.hid hn1
  have Hl2 := Lib.hid hM2.lt
  clear hn0 hn1 hl1
  clear a0 a1 a2 a3 hs2 hs2' hO2 hT hW
  go_wp2_with fail
  refine (fFind_any f F2 [wh1, wh2] 167838211 _ (hG2) (hM2) (by omega)).mono ?_
  rintro e x2 ⟨rfl, hK2⟩
  rw [wf1]
  obtain ⟨V2, hV2, kV2, BV2⟩ : ∃ V, x2.alloc (.cells #[.int .u32 167837696, .int .i64 16, .bool false, .int .i64 1, .int .u32 167772674, .int .i64 3] 41) = V ∧ Kp x2 V ∧ Blk V x2.heap.size 41 #[.int .u32 167837696, .int .i64 16, .bool false, .int .i64 1, .int .u32 167772674, .int .i64 3] := ⟨_, rfl, (Kp.refl _).alloc _, Blk.new x2 _ _⟩
  have K2 := hK2.trans kV2
  simp only [hv2]
  have hG3 := hG2.keep K2
  have hM3 := hM2.keep K2
  have hkx2 := hK2
  clear hK2 kV2 hG2 hM2
  go_wp2_with fail
  refine (fFind_any f F2 [wh1, wh2] 167903232 _ (hG3) (hM3) (by omega)).mono ?_
  rintro e x3 ⟨rfl, hK3⟩
  rw [wf2]
  obtain ⟨V3, hV3, kV3, BV3⟩ : ∃ V, x3.alloc (.cells #[.int .u32 167772160, .int .i64 8, .bool true, .int .i64 0, .int .u32 0, .int .i64 1] 41) = V ∧ Kp x3 V ∧ Blk V x3.heap.size 41 #[.int .u32 167772160, .int .i64 8, .bool true, .int .i64 0, .int .u32 0, .int .i64 1] := ⟨_, rfl, (Kp.refl _).alloc _, Blk.new x3 _ _⟩
  have K3 := hK3.trans kV3
  simp only [hv1]
  have hG4 := hG3.keep K3
  have hM4 := hM3.keep K3
  have hkx3 := K2.trans hK3
  clear hK3 kV3 hG3 hM3 hV2
  go_wp2_with fail
  refine (fFind_any f F2 [wh1, wh2] 184549376 _ (hG4) (hM4) (by omega)).mono ?_
  rintro e x4 ⟨rfl, hK4⟩
  rw [wf3]
  simp only [hv0]
  have K4 : Kp V3 (x4.alloc (.cells #[.int .u32 0, .int .i64 0, .bool false, .int .i64 0, .int .u32 0, .int .i64 0] 41)) := hK4.alloc _
  have hG5 := hG4.keep K4
  have hM5 := hM4.keep K4
  have B1c := B1b.keep ((K2.trans K3).trans K4)
  have B1d := B1b.keep ((K2.trans K3).trans hK4)
  have a2 : ∀ o, (x4.alloc o).cell? ⟨w1.heap.size + 1, 0, none⟩ = some (.int .u32 167837696) := fun o => (B1d.alloc o).cell 0
  have a3 : ∀ o, (x4.alloc o).cell? ⟨w1.heap.size + 1, 1, none⟩ = some (.int .i64 16) := fun o => (B1d.alloc o).cell 1
  clear hK4 hG4 hM4 hV3 B1d
  have HM5 := Lib.hid hM5
  have HG5 := Lib.hid hG5
  have HGn2 := Lib.hid hGn2
  have hl5 := hM5.lt
  have Hl5 := Lib.hid hl5
  clear hM5 hG5 hGn2 hl5
  go_wp2_with fail
  have k5 : ∀ o, Kp (x4.alloc (.cells #[.int .u32 0, .int .i64 0, .bool false, .int .i64 0, .int .u32 0, .int .i64 0] 41)) ((x4.alloc (.cells #[.int .u32 0, .int .i64 0, .bool false, .int .i64 0, .int .u32 0, .int .i64 0] 41)).alloc o) := fun o => (Kp.refl _).alloc o
  refine (Come_any f F2 [wh1, wh2] [wr3] (some ⟨x4.heap.size + 1, 0, none⟩) 1 _ (HG5.out.keep (k5 _)) HGn2.out (HM5.out.keep (k5 _)) (Rd.one1 x4 _ wr3) (fun _ a ha hc => by injection ha with ha; subst ha; have h9 := Hl5.out _ hc; simp at h9) (by simp) (by simp [Rt.fits, wr3])).mono ?_
  rintro e wc ⟨rfl, hT⟩
  rw [wn3, we3]
  rw [wl3] at hT
  obtain ⟨F6, hM6, hO6, hs6, hG6, hGn6⟩ := hT.open (HG5.out.keep (k5 _)) HGn2.out
  have O6 : Only F2 (x4.alloc (.cells #[.int .u32 0, .int .i64 0, .bool false, .int .i64 0, .int .u32 0, .int .i64 0] 41)) wc := (Only.of_kp (k5 _)).trans hO6
  have kwv : Kp w (x4.alloc (.cells #[.int .u32 0, .int .i64 0, .bool false, .int .i64 0, .int .u32 0, .int .i64 0] 41)) := ((kwb.trans K2).trans K3).trans K4
  have kwc : Kp w wc := O6.kp kwv Hs2.out
  clear hT hO6 a2 a3 hs6
  go_wp2_with fail
  refine (fFind_any f F6 [wh1] 167838211 _ (hG6) (hM6) (by omega)).mono ?_
  rintro e x6 ⟨rfl, hK6⟩
  rw [wf4]
  obtain ⟨V6, hV6, kV6, BV6⟩ : ∃ V, x6.alloc (.cells #[.int .u32 167772160, .int .i64 8, .bool true, .int .i64 0, .int .u32 0, .int .i64 1] 41) = V ∧ Kp x6 V ∧ Blk V x6.heap.size 41 #[.int .u32 167772160, .int .i64 8, .bool true, .int .i64 0, .int .u32 0, .int .i64 1] := ⟨_, rfl, (Kp.refl _).alloc _, Blk.new x6 _ _⟩
  have K6 := hK6.trans kV6
  simp only [hv1]
  have kz := kwc.trans K6
  have D0 := ((B0b.keep ((K2.trans K3).trans K4)).only O6 Hn0.out).keep K6
  have D1 := ((B1b.keep ((K2.trans K3).trans K4)).only O6 Hn1.out).keep K6
  have D2 := ((BV2.keep (K3.trans K4)).only O6 (fun hc => by have h1 := Hl2.out _ hc; have := hkx2.size; omega)).keep K6
  have D3 := ((BV3.keep K4).only O6 (fun hc => by have h1 := Hl2.out _ hc; have := hkx3.size; omega)).keep K6
  have hM7 := hM6.keep K6
  have HM7 := Lib.hid hM7
  have d0 : V6.cell? ⟨w1.heap.size, 0, none⟩ = some (.int .u32 167772160) := D0.cell 0
  have d1 : V6.cell? ⟨w1.heap.size, 1, none⟩ = some (.int .i64 8) := D0.cell 1
  have g0 : V6.cell? ⟨w1.heap.size + 1, 0, none⟩ = some (.int .u32 167837696) := D1.cell 0
  have g1 : V6.cell? ⟨w1.heap.size + 1, 1, none⟩ = some (.int .i64 16) := D1.cell 1
  have p0 : V6.cell? ⟨x2.heap.size, 0, none⟩ = some (.int .u32 167837696) := D2.cell 0
  have p1 : V6.cell? ⟨x2.heap.size, 1, none⟩ = some (.int .i64 16) := D2.cell 1
  have p2 : V6.cell? ⟨x2.heap.size, 2, none⟩ = some (.bool false) := D2.cell 2
  have p3 : V6.cell? ⟨x2.heap.size, 3, none⟩ = some (.int .i64 1) := D2.cell 3
  have p4 : V6.cell? ⟨x2.heap.size, 4, none⟩ = some (.int .u32 167772674) := D2.cell 4
  have p5 : V6.cell? ⟨x2.heap.size, 5, none⟩ = some (.int .i64 3) := D2.cell 5
  have q0 : V6.cell? ⟨x3.heap.size, 0, none⟩ = some (.int .u32 167772160) := D3.cell 0
  have q1 : V6.cell? ⟨x3.heap.size, 1, none⟩ = some (.int .i64 8) := D3.cell 1
  have q2 : V6.cell? ⟨x3.heap.size, 2, none⟩ = some (.bool true) := D3.cell 2
  have q3 : V6.cell? ⟨x3.heap.size, 3, none⟩ = some (.int .i64 0) := D3.cell 3
  have q4 : V6.cell? ⟨x3.heap.size, 4, none⟩ = some (.int .u32 0) := D3.cell 4
  have q5 : V6.cell? ⟨x3.heap.size, 5, none⟩ = some (.int .i64 1) := D3.cell 5
  have r0 : V6.cell? ⟨x6.heap.size, 0, none⟩ = some (.int .u32 167772160) := BV6.cell 0
  have r1 : V6.cell? ⟨x6.heap.size, 1, none⟩ = some (.int .i64 8) := BV6.cell 1
  have r2 : V6.cell? ⟨x6.heap.size, 2, none⟩ = some (.bool true) := BV6.cell 2
  have r3 : V6.cell? ⟨x6.heap.size, 3, none⟩ = some (.int .i64 0) := BV6.cell 3
  have r4 : V6.cell? ⟨x6.heap.size, 4, none⟩ = some (.int .u32 0) := BV6.cell 4
  have r5 : V6.cell? ⟨x6.heap.size, 5, none⟩ = some (.int .i64 1) := BV6.cell 5
  have e1 := wq1
  have e2 := wq2
  clear hK6 kV6 hM7 hM6 D0 D1 D2 D3 BV6 BV2 BV3 K2 K3 K4 K6 O6 kwv kwc HM5 HG5 Hl5 k5 B1c kwb Ob Ka hKa HM HGW
  go_wp2_with fail
  refine (num_any 0 _).mono ?_
  rintro e w' ⟨rfl, rfl⟩
  go_wp2_with fail
  refine (num_any 0 _).mono ?_
  rintro e w' ⟨rfl, rfl⟩
  go_wp2_with fail
  refine (flen_any f F6 [wh1] _ HM7.out).mono ?_
  rintro e w' ⟨rfl, rfl⟩
  go_wp2_with fail
  go_ret
  exact ⟨rfl, kz⟩
end Go.Proofs.YtfaiponmjjbgoaaDoor
