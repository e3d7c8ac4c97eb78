/- Lemmas and contracts for the theorem of this claim: R12G. -/
import Derived.Test.YtffckpkikdlbpaaGreatDoorZvAx
import Derived.Test.YtffckpkikdlbpaaGreatDoorZvBe
set_option linter.all false
set_option maxHeartbeats 16000000
namespace Go.Proofs.YtffckpkikdlbpaaGreatDoor
section
open Go.RowKit
theorem vbZ {fn : Func} {k i j g g2 : Nat} {ts : Array Value} {W : World} {T : Tb} {A E : Option Addr} {m n : Nat} {R : Rt} (hf : fn.results = #[.cell k 39, .cell i 48, .tmp j]) (hk : ts.getD k undef = .pointer (some ⟨g, 0, none⟩)) (hi : ts.getD i undef = .pointer (some ⟨g2, 0, none⟩)) (B : Blk W g 39 (tbR T A E m n)) (B2 : Blk W g2 48 (roC R)) : (results fn ts).run Tryz.prog W = .ok (.tuple #[tbV T A E m n, roV R, ts.getD j undef]) W := by
 obtain ⟨u0, u1, u2, u3, u4, u5, u6, u7, u8, u9, u10, u11⟩ := vbj B
 obtain ⟨q0, q1, q2, q3, q4, q5, q6, q7, q8⟩ := vab B2
 rw [Array.getD_eq_getD_getElem?] at hk hi
 simp [results, hf, hk, hi, go_sem, u0, u1, u2, u3, u4, u5, u6, u7, u8, u9, u10, u11, q0, q1, q2, q3, q4, q5, q6, q7, q8]
theorem vfJ {T : Tb} {p : PI} {h : Hd} {now : Int} (e : (toldB p && okHd h) = true) (t : timely T now = false) : heardT T p h now = (T, zeroR, 170) := by
 unfold heardT
 rw [if_pos e, t]
 rfl
structure HeM (w5 : World) (b : Nat) (T : Tb) (A : Option Addr) (m : Nat) (now : Int) (R : Rt) (z : Option Addr × Nat) (L : Nat → Bool) (W : World) : Prop where
 os : Only [b + 1 + 1 + 1, b + 1 + 1 + 1 + 1] w5 W
 fo : L 2 = true → Rd W 9 Rt.enc z.1 (setR R T.l) ∧ ∀ a, z.1 = some a → a.block ≠ b + 1 + 1 + 1 ∧ a.block ≠ b + 1 + 1 + 1 + 1 ∧ b ≤ a.block
 b8 : Blk W (b + 1 + 1 + 1) 39 (if L 4 = true then tbR ⟨T.c, setR R T.l, now, T.rf⟩ A z.1 m z.2 else tbR zeroTb none none 0 0)
 b9 : Blk W (b + 1 + 1 + 1 + 1) 48 (if L 5 = true then roC R else roC zeroR)
theorem HeM.cong {w5 : World} {b : Nat} {T : Tb} {A : Option Addr} {m : Nat} {now : Int} {R : Rt} {z : Option Addr × Nat} {L L' : Nat → Bool} {W : World} (e : ∀ j ∈ [2, 4, 5], L' j = L j) (h : HeM w5 b T A m now R z L W) : HeM w5 b T A m now R z L' W :=
 ⟨h.os, fun d => h.fo (e 2 (by simp) ▸ d), by rw [e 4 (by simp)]; exact h.b8, by rw [e 5 (by simp)]; exact h.b9⟩
set_option maxRecDepth 100000 in
theorem vfK (T : Tb) (A E : Option Addr) (m n : Nat) (p : PI) (h : Hd) (now : Int) (w : World) (hR : Rd w 9 Rt.enc E T.l) (ok : TbOk T) (hpa : p.a < 4294967296) (hha : h.a < 4294967296) :
  Calls Tryz.prog 44 #[tbV T A E m n, pfV p, .agg #[.int .i64 h.f, .int .u32 (h.a : Int), .int .i64 h.m], .int .i64 now] w fun e w' => ∃ E2 n2, e = .returned (.tuple #[tbV (heardT T p h now).1 A E2 m n2, roV (heardT T p h now).2.1, .int .i64 (heardT T p h now).2.2]) ∧ Stays w w' E T.l E2 (heardT T p h now).1.l ∧ Kp w w' := by
 obtain ⟨b, hb⟩ : ∃ b, w.heap.size = b := ⟨_, rfl⟩
 obtain ⟨W, hW, kW, B0, B1, B2, B8, B9⟩ : ∃ W, ((((w.alloc (.cells (tbR T A E m n) 39)).alloc (.cells #[.int .u32 (p.a : Int), .int .i64 p.l] 29)).alloc (.cells #[.int .i64 h.f, .int .u32 (h.a : Int), .int .i64 h.m] 31)).alloc (.cells zero12 39)).alloc (.cells zero9 48) = W ∧ Kp w W ∧ Blk W b 39 (tbR T A E m n) ∧ Blk W (b + 1) 29 #[.int .u32 (p.a : Int), .int .i64 p.l] ∧ Blk W (b + 1 + 1) 31 #[.int .i64 h.f, .int .u32 (h.a : Int), .int .i64 h.m] ∧ Blk W (b + 1 + 1 + 1) 39 (tbR zeroTb none none 0 0) ∧ Blk W (b + 1 + 1 + 1 + 1) 48 (roC zeroR) := ⟨_, rfl, (((((Kp.refl _).alloc _).alloc _).alloc _).alloc _).alloc _, by rw [← hb]; exact ((((Blk.new _ _ _).alloc _).alloc _).alloc _).alloc _, by rw [← hb]; exact (((Blk.new1 _ _ _ _).alloc _).alloc _).alloc _, by rw [← hb]; exact ((Blk.new2 _ _ _ _ _).alloc _).alloc _, by rw [← hb]; exact (Blk.new3 _ _ _ _ _ _).alloc _, by rw [← hb, vcm]; simpa using Blk.new ((((w.alloc (.cells (tbR T A E m n) 39)).alloc (.cells #[.int .u32 (p.a : Int), .int .i64 p.l] 29)).alloc (.cells #[.int .i64 h.f, .int .u32 (h.a : Int), .int .i64 h.m] 31)).alloc (.cells zero12 39)) 48 zero9⟩
 have HR0 := Lib.hid hR
 have HkW := Lib.hid kW
 have HB0 := Lib.hid B0
 have HB1 := Lib.hid B1
 have HB2 := Lib.hid B2
 have HW8 := Lib.hid B8
 have HW9 := Lib.hid B9
 have Hb := Lib.hid hb
 have HOK := Lib.hid ok
 have HPA := Lib.hid hpa
 have HHA := Lib.hid hha
 have HN : Hid (T.l.length ≤ 900000) := Lib.hid (by have := vcr ok; omega)
 have g0 := Blk.f B1 rfl
 unfold tbR zero12 zero9 at hW
 clear hR kW B0 B1 B2 B8 B9 ok hpa hha
 cases hpt : toldB p with
 | false =>
  have HPT := Lib.hid hpt
  have HE : Hid (heardT T p h now = (T, zeroR, 2)) := Lib.hid (by unfold heardT; rw [hpt]; rfl)
  clear hpt
  go_enter Tryz.func44, Tryz.ntmps44
  go_wp2_with fail
  refine (vbi p W HPA.out).mono ?_
  rintro e w1 ⟨rfl, K1⟩
  rw [HPT.out]
  have u0 := Blk.f (HB0.out.keep K1) rfl
  have H8 := Lib.hid (HW8.out.keep K1)
  have H9 := Lib.hid (HW9.out.keep K1)
  have y0 := Blk.f H8.out rfl
  have z0 := Blk.frozen H8.out
  have q0 := Blk.f H9.out rfl
  have f0 := Blk.frozen H9.out
  go_wp2_with fail
  have hgw : w.heap.size ≤ b + 1 + 1 + 1 := by have := Hb.out; omega
  have hgw2 : w.heap.size ≤ b + 1 + 1 + 1 + 1 := by omega
  refine bodyPost_ret (vbZ (T := T) (A := A) (E := E) (m := m) (n := n) (R := zeroR) rfl rfl rfl ((Blk.set12 H8.out).only (Only.set9 (Only.refl [b + 1 + 1 + 1 + 1] _) (by simp)) (by simp <;> omega)) (Blk.set9 (H9.out.only (Only.set12 (Only.refl [b + 1 + 1 + 1] _) (by simp)) (by simp <;> omega)))) rfl ?_
  rw [HE.out]
  first
  | exact ⟨E, n, rfl, Stays.same, Kp.set9 (Kp.set12 (HkW.out.trans K1) hgw) hgw2⟩
  | exact ⟨E, ⟨n, rfl⟩, Stays.same, Kp.set9 (Kp.set12 (HkW.out.trans K1) hgw) hgw2⟩
 | true =>
  have HPT := Lib.hid hpt
  cases hho : okHd h with
  | false =>
   have HHO := Lib.hid hho
   have HE : Hid (heardT T p h now = (T, zeroR, 2)) := Lib.hid (by unfold heardT; rw [hpt, hho]; rfl)
   clear hpt hho
   go_enter Tryz.func44, Tryz.ntmps44
   go_wp2_with fail
   refine (vbi p W HPA.out).mono ?_
   rintro e w1 ⟨rfl, K1⟩
   rw [HPT.out]
   have g0 := Blk.f (HB2.out.keep K1) rfl
   go_wp2_with fail
   refine (vby h w1 HHA.out).mono ?_
   rintro e w2 ⟨rfl, K2a⟩
   have K2 := K1.trans K2a
   clear K2a g0
   rw [HHO.out]
   have u0 := Blk.f (HB0.out.keep K2) rfl
   have H8 := Lib.hid (HW8.out.keep K2)
   have H9 := Lib.hid (HW9.out.keep K2)
   have y0 := Blk.f H8.out rfl
   have z0 := Blk.frozen H8.out
   have q0 := Blk.f H9.out rfl
   have f0 := Blk.frozen H9.out
   go_wp2_with fail
   have hgw : w.heap.size ≤ b + 1 + 1 + 1 := by have := Hb.out; omega
   have hgw2 : w.heap.size ≤ b + 1 + 1 + 1 + 1 := by omega
   refine bodyPost_ret (vbZ (T := T) (A := A) (E := E) (m := m) (n := n) (R := zeroR) rfl rfl rfl ((Blk.set12 H8.out).only (Only.set9 (Only.refl [b + 1 + 1 + 1 + 1] _) (by simp)) (by simp <;> omega)) (Blk.set9 (H9.out.only (Only.set12 (Only.refl [b + 1 + 1 + 1] _) (by simp)) (by simp <;> omega)))) rfl ?_
   rw [HE.out]
   first
   | exact ⟨E, n, rfl, Stays.same, Kp.set9 (Kp.set12 (HkW.out.trans K2) hgw) hgw2⟩
   | exact ⟨E, ⟨n, rfl⟩, Stays.same, Kp.set9 (Kp.set12 (HkW.out.trans K2) hgw) hgw2⟩
  | true =>
   have HHO := Lib.hid hho
   have hpo : (toldB p && okHd h) = true := by rw [hpt, hho]; rfl
   cases ht : timely T now with
   | false =>
    have HTM := Lib.hid ht
    have HE : Hid (heardT T p h now = (T, zeroR, 170)) := Lib.hid (vfJ hpo ht)
    clear hpt hho ht hpo
    go_enter Tryz.func44, Tryz.ntmps44
    go_wp2_with fail
    refine (vbi p W HPA.out).mono ?_
    rintro e w1 ⟨rfl, K1⟩
    rw [HPT.out]
    have g0 := Blk.f (HB2.out.keep K1) rfl
    go_wp2_with fail
    refine (vby h w1 HHA.out).mono ?_
    rintro e w2 ⟨rfl, K2a⟩
    have K2 := K1.trans K2a
    clear K2a g0
    rw [HHO.out]
    have u0 := Blk.f (HB0.out.keep K2) rfl
    go_wp2_with fail
    refine (vaJ T A E m n now w2).mono ?_
    rintro e w3 ⟨rfl, K3a⟩
    rw [HTM.out]
    simp only [Bool.false_eq_true, if_false]
    have K3 := K2.trans K3a
    clear u0 K3a
    have u0 := Blk.f (HB0.out.keep K3) rfl
    have H8 := Lib.hid (HW8.out.keep K3)
    have H9 := Lib.hid (HW9.out.keep K3)
    have y0 := Blk.f H8.out rfl
    have z0 := Blk.frozen H8.out
    have q0 := Blk.f H9.out rfl
    have f0 := Blk.frozen H9.out
    go_wp2_with fail
    have hgw : w.heap.size ≤ b + 1 + 1 + 1 := by have := Hb.out; omega
    have hgw2 : w.heap.size ≤ b + 1 + 1 + 1 + 1 := by omega
    refine bodyPost_ret (vbZ (T := T) (A := A) (E := E) (m := m) (n := n) (R := zeroR) rfl rfl rfl ((Blk.set12 H8.out).only (Only.set9 (Only.refl [b + 1 + 1 + 1 + 1] _) (by simp)) (by simp <;> omega)) (Blk.set9 (H9.out.only (Only.set12 (Only.refl [b + 1 + 1 + 1] _) (by simp)) (by simp <;> omega)))) rfl ?_
    rw [HE.out]
    first
    | exact ⟨E, n, rfl, Stays.same, Kp.set9 (Kp.set12 (HkW.out.trans K3) hgw) hgw2⟩
    | exact ⟨E, ⟨n, rfl⟩, Stays.same, Kp.set9 (Kp.set12 (HkW.out.trans K3) hgw) hgw2⟩
   | true =>
    have HTM := Lib.hid ht
    have HTI := Lib.hid (vam.1 ht)
    have hhm : 1 ≤ h.m ∧ h.m ≤ 16 := by
     have := hho
     unfold okHd at this
     rw [Bool.and_eq_true, vaa] at this
     exact this.2
    have HB : Hid ((1 ≤ h.m ∧ h.m ≤ 16) ∧ 0 ≤ now ∧ now ≤ 4611686018426387904 ∧ 0 ≤ T.c.t2 ∧ T.c.t2 ≤ 1000000 ∧ 0 ≤ T.c.t3 ∧ T.c.t3 ≤ 1000000) := Lib.hid (by
     have h1 := vaN HOK.out.c 2 (by omega)
     have h3 := vaN HOK.out.c 3 (by omega)
     simp only [leastS, Cf.t] at h1 h3
     have h2 := HTI.out
     exact ⟨hhm, by omega⟩)
    have HHE : Hid (heardT T p h now = if fullB T p (hearR T.c (wasR p T.l) h now) then (⟨T.c, T.l, now, min (T.rf + 1) 2147483647⟩, zeroR, 200) else (⟨T.c, setR (hearR T.c (wasR p T.l) h now) T.l, now, T.rf⟩, hearR T.c (wasR p T.l) h now, 0)) := Lib.hid (by unfold heardT; rw [if_pos hpo, if_pos ht])
    have HWS := Lib.hid (vaI ((vat _).1 (vck HOK.out (p := p) hpt).1).2)
    clear hpt hho ht hpo hhm
    go_enter Tryz.func44, Tryz.ntmps44
    go_wp2_with fail
    refine (vbi p W HPA.out).mono ?_
    rintro e w1 ⟨rfl, K1⟩
    rw [HPT.out]
    have g0 := Blk.f (HB2.out.keep K1) rfl
    go_wp2_with fail
    refine (vby h w1 HHA.out).mono ?_
    rintro e w2 ⟨rfl, K2a⟩
    have K2 := K1.trans K2a
    clear K2a g0
    rw [HHO.out]
    have u0 := Blk.f (HB0.out.keep K2) rfl
    go_wp2_with fail
    refine (vaJ T A E m n now w2).mono ?_
    rintro e w3 ⟨rfl, K3a⟩
    rw [HTM.out]
    simp only [if_true]
    have K3 := K2.trans K3a
    clear u0 K3a K2 K1 hW
    have B0k := HB0.out.keep K3
    have u0 := Blk.f B0k rfl
    have z0 := Blk.frozen B0k
    obtain ⟨w4, hw4, KB4, KK4⟩ : ∃ w4, w3.setCell ⟨b, 10, none⟩ (.int .i64 now) = w4 ∧ Blk w4 b 39 (tbR ⟨T.c, T.l, now, T.rf⟩ A E m n) ∧ Only [b] W w4 := ⟨_, rfl, by have := B0k.set_ 10 (.int .i64 now); exact this, (Only.of_kp K3).setCell (.inl (by simp)) _⟩
    have k4 : Kp w w4 := KK4.kp HkW.out (fun b' hb' => by have := Hb.out; simp at hb'; omega)
    have HBt := Lib.hid KB4
    have HO4 := Lib.hid KK4
    have HK4 := Lib.hid k4
    have HP4 := Lib.hid (HB1.out.only KK4 (by simp))
    have HH4 := Lib.hid (HB2.out.only KK4 (by simp <;> omega))
    have H84 := Lib.hid (HW8.out.only KK4 (by simp <;> omega))
    have H94 := Lib.hid (HW9.out.only KK4 (by simp <;> omega))
    clear K3 B0k KK4 k4
    go_upto_region 7 with (fail)
    clear hw4 u0 z0
    have u0 := Blk.f KB4 rfl
    have g0 := Blk.f HP4.out rfl
    clear KB4
    go_wp2_with fail
    refine (vht ⟨T.c, T.l, now, T.rf⟩ A E m n p w4 (HR0.out.keep HK4.out) (show T.l.length ≤ 1000000 by have := HN.out; omega)).mono ?_
    rintro e w6 ⟨rfl, K6⟩
    clear u0 g0
    simp only
    obtain ⟨P, hP⟩ : ∃ P, wasR p T.l = P := ⟨_, rfl⟩
    obtain ⟨is, his⟩ : ∃ is, (getR p T.l).isSome = is := ⟨_, rfl⟩
    rw [hP] at HHE HWS ⊢
    rw [his]
    have HIS := Lib.hid his
    clear hP his
    obtain ⟨g12, hg12⟩ : ∃ g, w6.heap.size = g := ⟨_, rfl⟩
    obtain ⟨w7, hw7, k7, B7⟩ : ∃ w7, w6.alloc (.cells (roC P) 48) = w7 ∧ Kp w4 w7 ∧ Blk w7 g12 48 (roC P) := ⟨_, rfl, K6.alloc _, by rw [← hg12]; exact Blk.new _ _ _⟩
    unfold roC at hw7
    have u0 := Blk.f (HBt.out.keep k7) rfl
    have q0 := Blk.f B7 rfl
    have g0 := Blk.f (HH4.out.keep k7) rfl
    have HK7 := Lib.hid k7
    clear B7 k7 K6
    go_wp2_with fail
    refine (vfE T.c A T.c.own.length m P h now w7 HWS.out HB.out.1.1 HB.out.1.2 (by have := HB.out.2; omega) (by have := HB.out.2; omega) (by have := HB.out.2; omega) (by have := HB.out.2; omega) (by have := HB.out.2; omega) (by have := HB.out.2; omega)).mono ?_
    rintro e w8 ⟨rfl, K8⟩
    clear hw7 hg12 u0 q0 g0
    obtain ⟨R, hR⟩ : ∃ R, hearR T.c P h now = R := ⟨_, rfl⟩
    rw [hR] at HHE ⊢
    clear hR
    obtain ⟨gr, hgr⟩ : ∃ g, w8.heap.size = g := ⟨_, rfl⟩
    obtain ⟨w5, hw5, k5, B5⟩ : ∃ w5, w8.alloc (.cells (roC R) 48) = w5 ∧ Kp w4 w5 ∧ Blk w5 gr 48 (roC R) := ⟨_, rfl, (HK7.out.trans K8).alloc _, by rw [← hgr]; exact Blk.new _ _ _⟩
    have HG : Hid (b + 1 + 1 + 1 + 1 < gr) := Lib.hid (by
     have h1 := H94.out.lt
     have h2 := (HK7.out.trans K8).size
     omega)
    have HBr := Lib.hid B5
    have HK5w4 := Lib.hid k5
    have HK5 := Lib.hid (HK4.out.trans k5)
    have HBt4 := HBt
    have HBt := Lib.hid (HBt4.out.keep k5)
    have H85 := Lib.hid (H84.out.keep k5)
    have H95 := Lib.hid (H94.out.keep k5)
    have hfull : fullB T p R = (!is && (decide (R.s ≠ 0) && decide (T.c.cap ≤ (T.l.length : Int)))) := by unfold fullB; rw [← HIS.out]; cases getR p T.l <;> rfl
    unfold roC at hw5
    have p2 := Blk.f B5 rfl
    have u7 := Blk.f HBt.out rfl
    clear B5 k5 K8
    cases is with
    | true =>
     have HF : Hid (heardT T p h now = (⟨T.c, setR R T.l, now, T.rf⟩, R, 0)) := Lib.hid (by rw [HHE.out, hfull]; rfl)
     clear hfull
     have HM0 := Lib.hid (show HeM w5 b T A m now R (none, 0) (fun _ => false) w5.drew from ⟨(Only.refl _ _).drew, fun h => (by cases h), H85.out, H95.out⟩)
     go_upto_region 12 with (fail)
     clear hw5 hgr p2 u7
     refine' vag (HeM w5 b T A m now R) [70, 71, 72, 73, 10004, 10005, 10] (fun z => [.agg #[.int .i64 T.c.t0, .int .i64 T.c.t1, .int .i64 T.c.t2, .int .i64 T.c.t3, .int .i64 T.c.t4, .int .i64 T.c.t5, .int .i64 T.c.t6, .int .i64 T.c.cap, .slice A T.c.own.length m, .slice E (T.l).length n, .int .i64 now, .int .i64 T.rf], .agg #[.int .u32 (R.p.a : Int), .int .i64 R.p.l, .int .i64 R.s, .int .i64 R.m, .int .i64 R.l, .int .i64 R.f, .int .u32 (R.x : Int), .int .i64 R.d, .bool R.c], .agg #[.int .i64 T.c.t0, .int .i64 T.c.t1, .int .i64 T.c.t2, .int .i64 T.c.t3, .int .i64 T.c.t4, .int .i64 T.c.t5, .int .i64 T.c.t6, .int .i64 T.c.cap, .slice A T.c.own.length m, .slice z.1 (setR R T.l).length z.2, .int .i64 now, .int .i64 T.rf], .agg #[.int .u32 (R.p.a : Int), .int .i64 R.p.l, .int .i64 R.s, .int .i64 R.m, .int .i64 R.l, .int .i64 R.f, .int .u32 (R.x : Int), .int .i64 R.d, .bool R.c], undef, undef, .int .i64 0]) (List.replicate 7 true) [2, 4, 5] (by kernel_rfl) (by kernel_rfl) (fun _ => rfl) (fun _ => rfl) (fun _ => rfl) (none, 0) HM0.out (fun _ _ _ _ e h => h.cong e) ?_ ?_ ?_
     rotate_left
     ·intro z; simp only [List.zip_cons_cons, List.zip_nil_right, wrC, wrN, List.set_cons_zero, List.set_cons_succ, List.set_nil]; rfl
     ·repeat' (first | refine And.intro ?_ ?_ | exact trivial)
      all_goals intro z L a w9 hLi d hcl hM hO K hK
      all_goals have u0 := Blk.f (HBt.out.only hM.os (by simp <;> omega)) rfl
      all_goals have q0 := Blk.f (HBr.out.only hM.os (by have := HG.out; simp; omega)) rfl
      all_goals try (go_simp; exact hK z _ _ (hO rfl) (fun _ _ => rfl) rfl)
      ·have h4 : L 4 = false := vac _ hcl (i := 4) rfl (by rfl) hLi
       have hb8 := hM.b8
       rw [h4] at hb8
       simp only [Bool.false_eq_true, if_false] at hb8
       go_simp
       refine (vaV ⟨T.c, T.l, now, T.rf⟩ A E m n R w9 (HR0.out.keep (hM.os.kp HK5.out (fun b' hb' => by have := Hb.out; simp at hb'; omega))) HN.out).mono ?_
       rintro e9 wb ⟨E3, n3, rfl, hrd0, hna, hKc⟩
       exact hK (E3, n3) _ _ ⟨hM.os.trans (Only.of_kp hKc), fun _ => ⟨hrd0, fun a ha => by have h5 := hna a ha; have h6 := hb8.lt; have h7 := hM.b9.lt; omega⟩, by simp only [h4]; simpa using hb8.keep hKc, by simpa using hM.b9.keep hKc⟩ (but1 hLi rfl) rfl
      ·have h2 : L 2 = true := d 2 rfl
       have hb8 := hM.b8
       rw [hLi] at hb8
       simp only [Bool.false_eq_true, if_false] at hb8
       have y := Blk.f hb8 rfl
       have f := Blk.frozen hb8
       go_simp
       exact hK z _ _ ⟨hM.os.set12 (by simp), fun _ => ⟨Rd.set12 (hM.fo h2).1 (fun a ha => ((hM.fo h2).2 a ha).1), (hM.fo h2).2⟩, (by simp only [beq_self_eq_true, Bool.true_or, if_true]; exact Blk.set12 hb8), by simpa using hM.b9.only (Only.set12 (Only.refl [b + 1 + 1 + 1] w9) (by simp)) (by simp <;> omega)⟩ (fun _ _ => rfl) rfl
      ·have hb9 := hM.b9
       rw [hLi] at hb9
       simp only [Bool.false_eq_true, if_false] at hb9
       have y := Blk.f hb9 rfl
       have f := Blk.frozen hb9
       go_simp
       exact hK z _ _ ⟨hM.os.set9 (by simp), fun h => ⟨(hM.fo (by simpa using h)).1.only12 (Only.set9 (Only.refl [b + 1 + 1 + 1 + 1] w9) (by simp)) (fun a ha => by have := ((hM.fo (by simpa using h)).2 a ha).2.1; simpa using this), (hM.fo (by simpa using h)).2⟩, by simpa using hM.b8.only (Only.set9 (Only.refl [b + 1 + 1 + 1 + 1] w9) (by simp)) (by simp <;> omega), (by simp only [beq_self_eq_true, Bool.true_or, if_true]; exact Blk.set9 hb9)⟩ (fun _ _ => rfl) rfl
     intro z L w9 hL hM
     (try simp only [Exit.then])
     have hp := hM
     have hb8 := hp.b8
     have hb9 := hp.b9
     rw [hL 4 (by decide)] at hb8
     rw [hL 5 (by decide)] at hb9
     simp only [if_true] at hb8 hb9
     have HD8 := Lib.hid hb8
     have HD9 := Lib.hid hb9
     have HDR : Hid (Stays w w9 E T.l z.1 (setR R T.l)) := Lib.hid (Stays.new (hp.fo (hL 2 (by decide))).1 (fun a ha => by have h5 := ((hp.fo (hL 2 (by decide))).2 a ha).2.2; have h6 := Hb.out; omega))
     have HKF : Hid (Kp w w9) := Lib.hid (hp.os.kp HK5.out (fun b' hb' => by have := Hb.out; simp at hb'; omega))
     clear hp hb8 hb9 hM hL
     go_wp2_with fail
     refine bodyPost_ret (vbZ (T := ⟨T.c, setR R T.l, now, T.rf⟩) (A := A) (E := z.1) (m := m) (n := z.2) (R := R) rfl rfl rfl HD8.out HD9.out) rfl ?_
     rw [HF.out]
     first
     | exact ⟨z.1, z.2, rfl, HDR.out, HKF.out⟩
     | exact ⟨z.1, ⟨z.2, rfl⟩, HDR.out, HKF.out⟩
    | false =>
     by_cases h0 : R.s = 0
     ·have e0 : (R.s != 0) = false := by simp [h0]
      have HF : Hid (heardT T p h now = (⟨T.c, setR R T.l, now, T.rf⟩, R, 0)) := Lib.hid (by rw [HHE.out, hfull]; simp [h0])
      clear hfull h0
      have HM0 := Lib.hid (show HeM w5 b T A m now R (none, 0) (fun _ => false) w5.drew from ⟨(Only.refl _ _).drew, fun h => (by cases h), H85.out, H95.out⟩)
      go_upto_region 12 with (fail)
      clear hw5 hgr
      refine' vag (HeM w5 b T A m now R) [70, 71, 72, 73, 10004, 10005, 10] (fun z => [.agg #[.int .i64 T.c.t0, .int .i64 T.c.t1, .int .i64 T.c.t2, .int .i64 T.c.t3, .int .i64 T.c.t4, .int .i64 T.c.t5, .int .i64 T.c.t6, .int .i64 T.c.cap, .slice A T.c.own.length m, .slice E (T.l).length n, .int .i64 now, .int .i64 T.rf], .agg #[.int .u32 (R.p.a : Int), .int .i64 R.p.l, .int .i64 R.s, .int .i64 R.m, .int .i64 R.l, .int .i64 R.f, .int .u32 (R.x : Int), .int .i64 R.d, .bool R.c], .agg #[.int .i64 T.c.t0, .int .i64 T.c.t1, .int .i64 T.c.t2, .int .i64 T.c.t3, .int .i64 T.c.t4, .int .i64 T.c.t5, .int .i64 T.c.t6, .int .i64 T.c.cap, .slice A T.c.own.length m, .slice z.1 (setR R T.l).length z.2, .int .i64 now, .int .i64 T.rf], .agg #[.int .u32 (R.p.a : Int), .int .i64 R.p.l, .int .i64 R.s, .int .i64 R.m, .int .i64 R.l, .int .i64 R.f, .int .u32 (R.x : Int), .int .i64 R.d, .bool R.c], undef, undef, .int .i64 0]) (List.replicate 7 true) [2, 4, 5] (by kernel_rfl) (by kernel_rfl) (fun _ => rfl) (fun _ => rfl) (fun _ => rfl) (none, 0) HM0.out (fun _ _ _ _ e h => h.cong e) ?_ ?_ ?_
      rotate_left
      ·intro z; simp only [List.zip_cons_cons, List.zip_nil_right, wrC, wrN, List.set_cons_zero, List.set_cons_succ, List.set_nil]; rfl
      ·repeat' (first | refine And.intro ?_ ?_ | exact trivial)
       all_goals intro z L a w9 hLi d hcl hM hO K hK
       all_goals have u0 := Blk.f (HBt.out.only hM.os (by simp <;> omega)) rfl
       all_goals have q0 := Blk.f (HBr.out.only hM.os (by have := HG.out; simp; omega)) rfl
       all_goals try (go_simp; exact hK z _ _ (hO rfl) (fun _ _ => rfl) rfl)
       ·have h4 : L 4 = false := vac _ hcl (i := 4) rfl (by rfl) hLi
        have hb8 := hM.b8
        rw [h4] at hb8
        simp only [Bool.false_eq_true, if_false] at hb8
        go_simp
        refine (vaV ⟨T.c, T.l, now, T.rf⟩ A E m n R w9 (HR0.out.keep (hM.os.kp HK5.out (fun b' hb' => by have := Hb.out; simp at hb'; omega))) HN.out).mono ?_
        rintro e9 wb ⟨E3, n3, rfl, hrd0, hna, hKc⟩
        exact hK (E3, n3) _ _ ⟨hM.os.trans (Only.of_kp hKc), fun _ => ⟨hrd0, fun a ha => by have h5 := hna a ha; have h6 := hb8.lt; have h7 := hM.b9.lt; omega⟩, by simp only [h4]; simpa using hb8.keep hKc, by simpa using hM.b9.keep hKc⟩ (but1 hLi rfl) rfl
       ·have h2 : L 2 = true := d 2 rfl
        have hb8 := hM.b8
        rw [hLi] at hb8
        simp only [Bool.false_eq_true, if_false] at hb8
        have y := Blk.f hb8 rfl
        have f := Blk.frozen hb8
        go_simp
        exact hK z _ _ ⟨hM.os.set12 (by simp), fun _ => ⟨Rd.set12 (hM.fo h2).1 (fun a ha => ((hM.fo h2).2 a ha).1), (hM.fo h2).2⟩, (by simp only [beq_self_eq_true, Bool.true_or, if_true]; exact Blk.set12 hb8), by simpa using hM.b9.only (Only.set12 (Only.refl [b + 1 + 1 + 1] w9) (by simp)) (by simp <;> omega)⟩ (fun _ _ => rfl) rfl
       ·have hb9 := hM.b9
        rw [hLi] at hb9
        simp only [Bool.false_eq_true, if_false] at hb9
        have y := Blk.f hb9 rfl
        have f := Blk.frozen hb9
        go_simp
        exact hK z _ _ ⟨hM.os.set9 (by simp), fun h => ⟨(hM.fo (by simpa using h)).1.only12 (Only.set9 (Only.refl [b + 1 + 1 + 1 + 1] w9) (by simp)) (fun a ha => by have := ((hM.fo (by simpa using h)).2 a ha).2.1; simpa using this), (hM.fo (by simpa using h)).2⟩, by simpa using hM.b8.only (Only.set9 (Only.refl [b + 1 + 1 + 1 + 1] w9) (by simp)) (by simp <;> omega), (by simp only [beq_self_eq_true, Bool.true_or, if_true]; exact Blk.set9 hb9)⟩ (fun _ _ => rfl) rfl
      intro z L w9 hL hM
      (try simp only [Exit.then])
      have hp := hM
      have hb8 := hp.b8
      have hb9 := hp.b9
      rw [hL 4 (by decide)] at hb8
      rw [hL 5 (by decide)] at hb9
      simp only [if_true] at hb8 hb9
      have HD8 := Lib.hid hb8
      have HD9 := Lib.hid hb9
      have HDR : Hid (Stays w w9 E T.l z.1 (setR R T.l)) := Lib.hid (Stays.new (hp.fo (hL 2 (by decide))).1 (fun a ha => by have h5 := ((hp.fo (hL 2 (by decide))).2 a ha).2.2; have h6 := Hb.out; omega))
      have HKF : Hid (Kp w w9) := Lib.hid (hp.os.kp HK5.out (fun b' hb' => by have := Hb.out; simp at hb'; omega))
      clear hp hb8 hb9 hM hL
      go_wp2_with fail
      refine bodyPost_ret (vbZ (T := ⟨T.c, setR R T.l, now, T.rf⟩) (A := A) (E := z.1) (m := m) (n := z.2) (R := R) rfl rfl rfl HD8.out HD9.out) rfl ?_
      rw [HF.out]
      first
      | exact ⟨z.1, z.2, rfl, HDR.out, HKF.out⟩
      | exact ⟨z.1, ⟨z.2, rfl⟩, HDR.out, HKF.out⟩
     ·have e0 : (R.s != 0) = true := by simp [h0]
      by_cases hc : T.c.cap ≤ (T.l.length : Int)
      ·have dc : decide (T.c.cap ≤ (T.l.length : Int)) = true := decide_eq_true hc
       have HE : Hid (heardT T p h now = (⟨T.c, T.l, now, min (T.rf + 1) 2147483647⟩, zeroR, 200)) := Lib.hid (by rw [HHE.out, hfull]; simp [h0, hc])
       have hr0 := HOK.out.f
       clear hfull h0 hc
       have u11 := Blk.f HBt.out rfl
       have zz := HBt.out.frozen 11
       have hr1 : T.rf + 1 ≤ 9223372036854775807 := by omega
       have hr2 : -9223372036854775808 ≤ T.rf + 1 := by omega
       obtain ⟨rf1, hrf1⟩ : ∃ rf1, min 2147483647 (T.rf + 1) = rf1 := ⟨_, rfl⟩
       have dm : min (T.rf + 1) 2147483647 = rf1 := by rw [← hrf1]; omega
       rw [dm] at HE
       clear dm
       obtain ⟨V, hV, B5v, K5v⟩ : ∃ V, w5.setCell ⟨b, 11, none⟩ (.int .i64 (rf1)) = V ∧ Blk V b 39 (tbR ⟨T.c, T.l, now, rf1⟩ A E m n) ∧ Only [b] w5 V := ⟨_, rfl, by have := HBt.out.set_ 11 (.int .i64 (rf1)); exact this, (Only.refl [b] w5).setCell (.inl (by simp)) _⟩
       have H8 := Lib.hid (H85.out.only K5v (by simp <;> omega))
       have H9 := Lib.hid (H95.out.only K5v (by simp <;> omega))
       have HKV : Hid (Kp w V) := Lib.hid (K5v.kp HK5.out (fun b' hb' => by have := Hb.out; simp at hb'; omega))
       go_upto_region 11 with (fail)
       clear hV u11 hw5 hrf1
       have u0 := Blk.f B5v rfl
       clear B5v K5v
       have y0 := Blk.f H8.out rfl
       have z0 := Blk.frozen H8.out
       have q0 := Blk.f H9.out rfl
       have f0 := Blk.frozen H9.out
       go_wp2_with fail
       have hgw : w.heap.size ≤ b + 1 + 1 + 1 := by have := Hb.out; omega
       have hgw2 : w.heap.size ≤ b + 1 + 1 + 1 + 1 := by omega
       refine bodyPost_ret (vbZ (T := ⟨T.c, T.l, now, rf1⟩) (A := A) (E := E) (m := m) (n := n) (R := zeroR) rfl rfl rfl ((Blk.set12 H8.out).only (Only.set9 (Only.refl [b + 1 + 1 + 1 + 1] _) (by simp)) (by simp <;> omega)) (Blk.set9 (H9.out.only (Only.set12 (Only.refl [b + 1 + 1 + 1] _) (by simp)) (by simp <;> omega)))) rfl ?_
       rw [HE.out]
       first
       | exact ⟨E, n, rfl, Stays.same, Kp.set9 (Kp.set12 HKV.out hgw) hgw2⟩
       | exact ⟨E, ⟨n, rfl⟩, Stays.same, Kp.set9 (Kp.set12 HKV.out hgw) hgw2⟩
      ·have dc : decide (T.c.cap ≤ (T.l.length : Int)) = false := decide_eq_false hc
       have HF : Hid (heardT T p h now = (⟨T.c, setR R T.l, now, T.rf⟩, R, 0)) := Lib.hid (by rw [HHE.out, hfull]; simp [hc])
       clear hfull h0 hc
       have HM0 := Lib.hid (show HeM w5 b T A m now R (none, 0) (fun _ => false) w5.drew from ⟨(Only.refl _ _).drew, fun h => (by cases h), H85.out, H95.out⟩)
       go_upto_region 12 with (fail)
       clear hw5 hgr
       refine' vag (HeM w5 b T A m now R) [70, 71, 72, 73, 10004, 10005, 10] (fun z => [.agg #[.int .i64 T.c.t0, .int .i64 T.c.t1, .int .i64 T.c.t2, .int .i64 T.c.t3, .int .i64 T.c.t4, .int .i64 T.c.t5, .int .i64 T.c.t6, .int .i64 T.c.cap, .slice A T.c.own.length m, .slice E (T.l).length n, .int .i64 now, .int .i64 T.rf], .agg #[.int .u32 (R.p.a : Int), .int .i64 R.p.l, .int .i64 R.s, .int .i64 R.m, .int .i64 R.l, .int .i64 R.f, .int .u32 (R.x : Int), .int .i64 R.d, .bool R.c], .agg #[.int .i64 T.c.t0, .int .i64 T.c.t1, .int .i64 T.c.t2, .int .i64 T.c.t3, .int .i64 T.c.t4, .int .i64 T.c.t5, .int .i64 T.c.t6, .int .i64 T.c.cap, .slice A T.c.own.length m, .slice z.1 (setR R T.l).length z.2, .int .i64 now, .int .i64 T.rf], .agg #[.int .u32 (R.p.a : Int), .int .i64 R.p.l, .int .i64 R.s, .int .i64 R.m, .int .i64 R.l, .int .i64 R.f, .int .u32 (R.x : Int), .int .i64 R.d, .bool R.c], undef, undef, .int .i64 0]) (List.replicate 7 true) [2, 4, 5] (by kernel_rfl) (by kernel_rfl) (fun _ => rfl) (fun _ => rfl) (fun _ => rfl) (none, 0) HM0.out (fun _ _ _ _ e h => h.cong e) ?_ ?_ ?_
       rotate_left
       ·intro z; simp only [List.zip_cons_cons, List.zip_nil_right, wrC, wrN, List.set_cons_zero, List.set_cons_succ, List.set_nil]; rfl
       ·repeat' (first | refine And.intro ?_ ?_ | exact trivial)
        all_goals intro z L a w9 hLi d hcl hM hO K hK
        all_goals have u0 := Blk.f (HBt.out.only hM.os (by simp <;> omega)) rfl
        all_goals have q0 := Blk.f (HBr.out.only hM.os (by have := HG.out; simp; omega)) rfl
        all_goals try (go_simp; exact hK z _ _ (hO rfl) (fun _ _ => rfl) rfl)
        ·have h4 : L 4 = false := vac _ hcl (i := 4) rfl (by rfl) hLi
         have hb8 := hM.b8
         rw [h4] at hb8
         simp only [Bool.false_eq_true, if_false] at hb8
         go_simp
         refine (vaV ⟨T.c, T.l, now, T.rf⟩ A E m n R w9 (HR0.out.keep (hM.os.kp HK5.out (fun b' hb' => by have := Hb.out; simp at hb'; omega))) HN.out).mono ?_
         rintro e9 wb ⟨E3, n3, rfl, hrd0, hna, hKc⟩
         exact hK (E3, n3) _ _ ⟨hM.os.trans (Only.of_kp hKc), fun _ => ⟨hrd0, fun a ha => by have h5 := hna a ha; have h6 := hb8.lt; have h7 := hM.b9.lt; omega⟩, by simp only [h4]; simpa using hb8.keep hKc, by simpa using hM.b9.keep hKc⟩ (but1 hLi rfl) rfl
        ·have h2 : L 2 = true := d 2 rfl
         have hb8 := hM.b8
         rw [hLi] at hb8
         simp only [Bool.false_eq_true, if_false] at hb8
         have y := Blk.f hb8 rfl
         have f := Blk.frozen hb8
         go_simp
         exact hK z _ _ ⟨hM.os.set12 (by simp), fun _ => ⟨Rd.set12 (hM.fo h2).1 (fun a ha => ((hM.fo h2).2 a ha).1), (hM.fo h2).2⟩, (by simp only [beq_self_eq_true, Bool.true_or, if_true]; exact Blk.set12 hb8), by simpa using hM.b9.only (Only.set12 (Only.refl [b + 1 + 1 + 1] w9) (by simp)) (by simp <;> omega)⟩ (fun _ _ => rfl) rfl
        ·have hb9 := hM.b9
         rw [hLi] at hb9
         simp only [Bool.false_eq_true, if_false] at hb9
         have y := Blk.f hb9 rfl
         have f := Blk.frozen hb9
         go_simp
         exact hK z _ _ ⟨hM.os.set9 (by simp), fun h => ⟨(hM.fo (by simpa using h)).1.only12 (Only.set9 (Only.refl [b + 1 + 1 + 1 + 1] w9) (by simp)) (fun a ha => by have := ((hM.fo (by simpa using h)).2 a ha).2.1; simpa using this), (hM.fo (by simpa using h)).2⟩, by simpa using hM.b8.only (Only.set9 (Only.refl [b + 1 + 1 + 1 + 1] w9) (by simp)) (by simp <;> omega), (by simp only [beq_self_eq_true, Bool.true_or, if_true]; exact Blk.set9 hb9)⟩ (fun _ _ => rfl) rfl
       intro z L w9 hL hM
       (try simp only [Exit.then])
       have hp := hM
       have hb8 := hp.b8
       have hb9 := hp.b9
       rw [hL 4 (by decide)] at hb8
       rw [hL 5 (by decide)] at hb9
       simp only [if_true] at hb8 hb9
       have HD8 := Lib.hid hb8
       have HD9 := Lib.hid hb9
       have HDR : Hid (Stays w w9 E T.l z.1 (setR R T.l)) := Lib.hid (Stays.new (hp.fo (hL 2 (by decide))).1 (fun a ha => by have h5 := ((hp.fo (hL 2 (by decide))).2 a ha).2.2; have h6 := Hb.out; omega))
       have HKF : Hid (Kp w w9) := Lib.hid (hp.os.kp HK5.out (fun b' hb' => by have := Hb.out; simp at hb'; omega))
       clear hp hb8 hb9 hM hL
       go_wp2_with fail
       refine bodyPost_ret (vbZ (T := ⟨T.c, setR R T.l, now, T.rf⟩) (A := A) (E := z.1) (m := m) (n := z.2) (R := R) rfl rfl rfl HD8.out HD9.out) rfl ?_
       rw [HF.out]
       first
       | exact ⟨z.1, z.2, rfl, HDR.out, HKF.out⟩
       | exact ⟨z.1, ⟨z.2, rfl⟩, HDR.out, HKF.out⟩
end

end Go.Proofs.YtffckpkikdlbpaaGreatDoor
