/- Lemmas and contracts for the theorem of this claim: IsT, R12I, CopT, Op12b, Lay12. -/
import Derived.Test.YtffckpkikdlbpaaGreatDoorZvBt
import Derived.Deep.CutBlock
import Derived.Test.YtffckpkikdlbpaaGreatDoorRows
import Derived.ProofKit
import Derived.LaidMore
import Derived.OpenShut
import Derived.Stop.Joined
set_option linter.all false
set_option maxHeartbeats 16000000
namespace Go.Proofs.YtffckpkikdlbpaaGreatDoor
section
open Go.RowKit Go.Maps
theorem vlv (L : List Rt) : nextV L = .tuple #[.int .i64 ((firstR L).getD zeroR).d, .bool (firstR L).isSome] := by
 unfold nextV
 cases firstR L <;> rfl
structure IsZ where
 b : Nat
 a : Option Addr
 c : Nat
 a1 : Option Addr
 c1 : Nat
 e2 : Option Addr
 n2 : Nat
 a3 : Option Addr
 m3 : Nat
structure IsM (wc : World) (T : Tb) (z : IsZ) (L : Nat → Bool) (W : World) : Prop where
 kp : Kp wc W
 al : L 1 = true → AllM z.b z.a z.c T.l W
 ch : L 7 = true → Rd W 9 Rt.enc z.a1 (newsL T.l)
 rc : L 9 = true → Rd W 9 Rt.enc z.e2 (newsL T.l)
 cf : L 47 = true → Rd W 2 PI.enc z.a3 T.c.own
theorem IsM.start {wc : World} {T : Tb} {z : IsZ} : IsM wc T z (fun _ => false) wc.drew := ⟨(Kp.refl _).drew, fun h => (by cases h), fun h => (by cases h), fun h => (by cases h), fun h => (by cases h)⟩
section
variable {wc W W' : World} {T : Tb} {z : IsZ} {L : Nat → Bool}
theorem IsM.cong {L' : Nat → Bool} (e : ∀ j ∈ [1, 7, 9, 47], L' j = L j) (h : IsM wc T z L W) : IsM wc T z L' W :=
 ⟨h.kp, fun d => h.al (e 1 (by simp) ▸ d), fun d => h.ch (e 7 (by simp) ▸ d), fun d => h.rc (e 9 (by simp) ▸ d), fun d => h.cf (e 47 (by simp) ▸ d)⟩
theorem IsM.to (h : IsM wc T z L W) (i : Nat) (hi : (i == 1 || i == 7 || i == 9 || i == 47) = false) (k : Kp W W') : IsM wc T z (fun j => j == i || L j) W' := by
 simp only [Bool.or_eq_false_iff, beq_eq_false_iff_ne, ne_eq] at hi
 obtain ⟨⟨⟨h1, h7⟩, h9⟩, h47⟩ := hi
 have e : ∀ j, j ≠ i → (j == i || L j) = L j := fun j hj => by simp [hj]
 exact ⟨h.kp.trans k, fun d => (h.al (e 1 (Ne.symm h1) ▸ d)).keep k, fun d => (h.ch (e 7 (Ne.symm h7) ▸ d)).keep k, fun d => (h.rc (e 9 (Ne.symm h9) ▸ d)).keep k, fun d => (h.cf (e 47 (Ne.symm h47) ▸ d)).keep k⟩
theorem IsM.at1 {b : Nat} {a : Option Addr} {c : Nat} (h : IsM wc T z L W) (hA : AllM b a c T.l W') (k : Kp W W') : IsM wc T { z with b := b, a := a, c := c } (fun j => j == 1 || L j) W' :=
 ⟨h.kp.trans k, fun _ => hA, fun d => (h.ch d).keep k, fun d => (h.rc d).keep k, fun d => (h.cf d).keep k⟩
theorem IsM.at7 {a : Option Addr} {c : Nat} (h : IsM wc T z L W) (hA : Rd W' 9 Rt.enc a (newsL T.l)) (k : Kp W W') : IsM wc T { z with a1 := a, c1 := c } (fun j => j == 7 || L j) W' :=
 ⟨h.kp.trans k, fun d => (h.al d).keep k, fun _ => hA, fun d => (h.rc d).keep k, fun d => (h.cf d).keep k⟩
theorem IsM.at9 {a : Option Addr} {c : Nat} (h : IsM wc T z L W) (hA : Rd W' 9 Rt.enc a (newsL T.l)) (k : Kp W W') : IsM wc T { z with e2 := a, n2 := c } (fun j => j == 9 || L j) W' :=
 ⟨h.kp.trans k, fun d => (h.al d).keep k, fun d => (h.ch d).keep k, fun _ => hA, fun d => (h.cf d).keep k⟩
theorem IsM.at47 {a : Option Addr} {c : Nat} (h : IsM wc T z L W) (hA : Rd W' 2 PI.enc a T.c.own) (k : Kp W W') : IsM wc T { z with a3 := a, m3 := c } (fun j => j == 47 || L j) W' :=
 ⟨h.kp.trans k, fun d => (h.al d).keep k, fun d => (h.ch d).keep k, fun d => (h.rc d).keep k, fun _ => hA⟩
end
set_option maxRecDepth 100000 in
theorem vlR (B t : Nat) (F : List Nat) (T : Tb) (A E : Option Addr) (m n : Nat) (w : World) (hT : TabM w B t F T) (hR : RfM w T A E) (hl : T.l.length ≤ 900000) (ho : T.c.own.length ≤ 1000000) :
  Calls Tryz.prog 31 #[.pointer (some ⟨t, 0, none⟩), tbV T A E m n] w fun e w' => e = .returned (.bool true) ∧ Kp w w' := by
 obtain ⟨b, hb⟩ : ∃ b, w.heap.size = b := ⟨_, rfl⟩
 obtain ⟨W, hW, kW, B0⟩ := Blk.al1 hb (tbR T A E m n) 39
 have HT := Lib.hid (hT.keep kW)
 have HR := Lib.hid (hR.keep kW)
 have HL := Lib.hid hl
 have HL2 : Hid ((newsL T.l).length ≤ 1000000) := Lib.hid (by have := viW T.l; omega)
 have HLO := Lib.hid ho
 have HB0 := Lib.hid B0
 have HkW := Lib.hid kW
 obtain ⟨due, hdue⟩ : ∃ due, ((firstR T.l).getD zeroR).d = due := ⟨_, rfl⟩
 obtain ⟨had, hhad⟩ : ∃ had, (firstR T.l).isSome = had := ⟨_, rfl⟩
 have HNX : Hid (nextV T.l = .tuple #[.int .i64 due, .bool had]) := Lib.hid (by rw [vlv, hdue, hhad])
 obtain ⟨FR, hFR⟩ : ∃ FR, (firstR T.l).getD zeroR = FR := ⟨_, rfl⟩
 have HDU : Hid (FR.d = due) := Lib.hid (by rw [← hFR]; exact hdue)
 have HFR := Lib.hid hFR
 have HHAD := Lib.hid hhad
 unfold tbR at hW
 clear hT hR hl ho B0 kW hdue hhad hFR
 go_enter Tryz.func31, Tryz.ntmps31
 go_wp2_with fail
 clear hW
 refine (veS B t F T _ HT.out).mono ?_
 rintro e w1 ⟨rfl, K1⟩
 rw [HNX.out]
 have HT := Lib.hid (HT.out.keep K1)
 have HR := Lib.hid (HR.out.keep K1)
 have HB0 := Lib.hid (HB0.out.keep K1)
 have HkW := Lib.hid (HkW.out.trans K1)
 obtain ⟨u0, u1, u2, u3, u4, u5, u6, u7, u8, u9, u10, u11⟩ := vbj HB0.out
 clear K1
 go_wp2_with fail
 refine (vcO T A E m n _ HR.out.l HL.out).mono ?_
 rintro e w2 ⟨rfl, K2⟩
 rw [HFR.out, HHAD.out]
 clear u0 u1 u2 u3 u4 u5 u6 u7 u8 u9 u10 u11
 obtain ⟨W3, hW3, kW3, B7⟩ := Blk.al1 (w := w2) rfl (roC FR) 48
 have k3 := K2.trans kW3
 have HT := Lib.hid (HT.out.keep k3)
 have HR := Lib.hid (HR.out.keep k3)
 have HB0 := Lib.hid (HB0.out.keep k3)
 have HkW := Lib.hid (HkW.out.trans k3)
 have HB7 := Lib.hid B7
 unfold roC at hW3
 clear K2 kW3 k3 B7
 go_upto_region 3 with (fail)
 clear hW3
 obtain ⟨b7, hb7⟩ : ∃ b7, w2.heap.size = b7 := ⟨_, rfl⟩
 rw [hb7] at HB7 ⊢
 clear hb7
 refine' vag (IsM W3 T) [19, 20, 21, 22, 23, 24, 25, 26, 27, 28, 29, 30, 31, 32, 33, 34, 35, 36, 37, 38, 39, 40, 41, 42, 43, 44, 45, 46, 47, 48, 49, 50, 51, 52, 53, 54, 55, 56, 57, 58, 59, 60, 61, 62, 63, 64, 65, 66, 67, 68, 69, 70, 4] (fun z => [.pointer (some ⟨t, 0, none⟩), allV z.b, .pointer (some ⟨b, 9, none⟩), .slice E T.l.length n, .bool true, .bool true, .pointer (some ⟨t, 0, none⟩), .slice z.a1 (newsL T.l).length z.c1, .agg #[.int .i64 T.c.t0, .int .i64 T.c.t1, .int .i64 T.c.t2, .int .i64 T.c.t3, .int .i64 T.c.t4, .int .i64 T.c.t5, .int .i64 T.c.t6, .int .i64 T.c.cap, .slice A T.c.own.length m, .slice E T.l.length n, .int .i64 T.now, .int .i64 T.rf], .slice z.e2 (newsL T.l).length z.n2, .bool true, .bool true, .bool true, .bool had, .bool had, .bool true, .bool true, .bool true, .int .i64 due, .pointer (some ⟨b7, 7, none⟩), .int .i64 due, .bool true, .bool true, .bool true, .pointer (some ⟨t, 0, none⟩), .int .i64 (T.l.length : Int), .pointer (some ⟨b, 9, none⟩), .slice E T.l.length n, .int .i64 (T.l.length : Int), .bool true, .bool true, .bool true, .pointer (some ⟨t, 0, none⟩), .int .i64 T.rf, .pointer (some ⟨b, 11, none⟩), .int .i64 T.rf, .bool true, .bool true, .bool true, .pointer (some ⟨t, 0, none⟩), .int .i64 T.now, .pointer (some ⟨b, 10, none⟩), .int .i64 T.now, .bool true, .bool true, .bool true, .pointer (some ⟨t, 0, none⟩), .agg #[.int .i64 T.c.t0, .int .i64 T.c.t1, .int .i64 T.c.t2, .int .i64 T.c.t3, .int .i64 T.c.t4, .int .i64 T.c.t5, .int .i64 T.c.t6, .int .i64 T.c.cap, .slice z.a3 T.c.own.length z.m3], .pointer (some ⟨b, 0, none⟩), .agg #[.int .i64 T.c.t0, .int .i64 T.c.t1, .int .i64 T.c.t2, .int .i64 T.c.t3, .int .i64 T.c.t4, .int .i64 T.c.t5, .int .i64 T.c.t6, .int .i64 T.c.cap, .slice A T.c.own.length m], .bool true, .bool true, .bool true]) (List.replicate 53 true) [1, 7, 9, 47] (by kernel_rfl) (by kernel_rfl) (fun _ => rfl) (fun _ => rfl) (fun _ => rfl) ⟨0, none, 0, none, 0, none, 0, none, 0⟩ IsM.start (fun _ _ _ _ e h => IsM.cong e h) ?_ ?_ ?_
 rotate_left
 ·intro z; simp only [List.zip_cons_cons, List.zip_nil_right, wrC, wrN, List.set_cons_zero, List.set_cons_succ, List.set_nil]; rfl
 ·repeat' (first | refine And.intro ?_ ?_ | exact trivial)
  all_goals intro z L a w9 hLi d hcl hM hO K hK
  all_goals have u := Blk.f (HB0.out.keep hM.kp) rfl
  all_goals have c : w9.cell? ⟨b7, 7, none⟩ = some (.int .i64 due) := by rw [← HDU.out]; exact (HB7.out.keep hM.kp).cell 7
  all_goals try (go_simp; exact hK z _ _ (hO rfl) (fun _ _ => rfl) rfl)
  ·go_simp
   refine (vna B t F T _ (HT.out.keep hM.kp)).mono ?_
   rintro e9 wb ⟨bx, a9, c9, rfl, hA9, hKc, -, -⟩
   exact hK { z with b := bx, a := a9, c := c9 } _ _ (hM.at1 hA9 hKc) (but1 hLi rfl) rfl
  ·go_simp
   refine (vlq z.b z.a E z.c n T.l 999 _ (hM.al (d 1 rfl)) (HR.out.l.keep hM.kp) HL.out (by decide)).mono ?_
   rintro e9 wb ⟨rfl, hKc⟩
   exact hK z _ _ (hM.to 4 rfl hKc) (fun _ _ => rfl) rfl
  ·go_simp
   refine (vds B t F T _ (HT.out.keep hM.kp)).mono ?_
   rintro e9 wb ⟨a9, c9, rfl, hO9, hKc⟩
   exact hK { z with a1 := a9, c1 := c9 } _ _ (hM.at7 (Own.rdAt (by decide) Rt.len hO9) hKc) (but1 hLi rfl) rfl
  ·go_simp
   refine (vbL T A E m n _ (HR.out.l.keep hM.kp) HL.out).mono ?_
   rintro e9 wb ⟨a9, c9, rfl, hO9, hKc⟩
   exact hK { z with e2 := a9, n2 := c9 } _ _ (hM.at9 hO9 hKc) (but1 hLi rfl) rfl
  ·go_simp
   refine (vaK (newsL T.l) (newsL T.l) z.a1 z.e2 z.c1 z.n2 _ (hM.ch (d 7 rfl)) (hM.rc (d 9 rfl)) HL2.out HL2.out).mono ?_
   rintro e9 wb ⟨rfl, hKc⟩
   rw [decide_eq_true rfl]
   exact hK z _ _ (hM.to 10 rfl hKc) (fun _ _ => rfl) rfl
  ·go_simp
   refine (vem B t F T _ (HT.out.keep hM.kp)).mono ?_
   rintro e9 wb ⟨rfl, hwb⟩
   rw [hwb]
   exact hK z _ _ (hO rfl) (fun _ _ => rfl) rfl
  ·go_simp
   refine (vdo B t F T _ (HT.out.keep hM.kp)).mono ?_
   rintro e9 wb ⟨rfl, hwb⟩
   rw [hwb]
   exact hK z _ _ (hO rfl) (fun _ _ => rfl) rfl
  ·go_simp
   refine (vmN B t F T _ (HT.out.keep hM.kp)).mono ?_
   rintro e9 wb ⟨rfl, hwb⟩
   rw [hwb]
   exact hK z _ _ (hO rfl) (fun _ _ => rfl) rfl
  ·go_simp
   refine (vfM B t F T _ (HT.out.keep hM.kp) HLO.out).mono ?_
   rintro e9 wb ⟨a9, c9, rfl, hO9, hKc⟩
   exact hK { z with a3 := a9, m3 := c9 } _ _ (hM.at47 (Own.rdAt (by decide) PI.len hO9) hKc) (but1 hLi rfl) rfl
  ·go_simp
   refine (vbJ T.c z.a3 A z.m3 m _ (hM.cf (d 47 rfl)) (HR.out.own.keep hM.kp) HLO.out).mono ?_
   rintro e9 wb ⟨rfl, hKc⟩
   exact hK z _ _ (hM.to 50 rfl hKc) (fun _ _ => rfl) rfl
 intro z L w9 hL hM
 (try simp only [Exit.then])
 go_wp2_with fail
 go_ret
 exact ⟨rfl, HkW.out.trans hM.kp⟩
end

section
open Go.RowKit
def sameD (T U : Tb) : Bool := decide (T.l = U.l) && (decide (T.now = U.now) && decide (T.rf = U.rf))
set_option maxRecDepth 100000 in
theorem vfQ (T U : Tb) (A E A2 E2 : Option Addr) (m n m2 n2 : Nat) (w : World) (hc : U.c = T.c) (hS : RfM w T A E) (hQ : RfM w U A2 E2) (hn : T.c.own.length ≤ 1000000) (hl : T.l.length ≤ 1000000) (hl2 : U.l.length ≤ 1000000) :
  Calls Tryz.prog 37 #[tbV T A E m n, tbV U A2 E2 m2 n2] w fun e w' => e = .returned (.bool (sameD T U)) ∧ Kp w w' := by
 obtain ⟨c, ul, un, ur⟩ := U
 obtain rfl : c = T.c := hc
 obtain ⟨b, hb⟩ : ∃ b, w.heap.size = b := ⟨_, rfl⟩
 obtain ⟨W, hW, kW, B0, B1⟩ := Blk.al2 hb (tbR T A E m n) 39 (tbR ⟨T.c, ul, un, ur⟩ A2 E2 m2 n2) 39
 have HS := Lib.hid hS
 have HQ := Lib.hid hQ
 have HK0 := Lib.hid kW
 have HB0 := Lib.hid B0
 have HB1 := Lib.hid B1
 have hl3 : ul.length ≤ 1000000 := hl2
 unfold tbR at hW
 clear hS hQ kW B0 B1 hl2
 by_cases h1 : T.l = ul
 ·have HL := Lib.hid (show decide (T.l = ul) = true from decide_eq_true h1)
  by_cases h2 : T.now = un
  ·have dn : (T.now == un) = true := by simpa using h2
   obtain ⟨q, hq⟩ : ∃ q, (T.rf == ur) = q := ⟨_, rfl⟩
   have HE : Hid (sameD T ⟨T.c, ul, un, ur⟩ = q) := Lib.hid (by
    rw [← hq]
    unfold sameD
    rw [decide_eq_true h1, decide_eq_true h2, Bool.true_and, Bool.true_and]
    by_cases h3 : T.rf = ur
    ·simp [h3]
    ·simp [h3])
   clear h1 h2
   have u0 := Blk.f HB0.out rfl
   have y0 := Blk.f HB1.out rfl
   go_enter Tryz.func37, Tryz.ntmps37
   go_wp2_with fail
   clear hW
   refine (vbJ T.c A A2 m m2 _ (HS.out.own.keep HK0.out) (HQ.out.own.keep HK0.out) (by omega)).mono ?_
   rintro e9 w1 ⟨rfl, K1⟩
   clear u0 y0
   have HK1 := Lib.hid (HK0.out.trans K1)
   have u0 := Blk.f (HB0.out.keep K1) rfl
   have y0 := Blk.f (HB1.out.keep K1) rfl
   have HB0 := Lib.hid (HB0.out.keep K1)
   have HB1 := Lib.hid (HB1.out.keep K1)
   clear K1
   go_wp2_with fail
   refine (vaK T.l ul E E2 n n2 _ (HS.out.l.keep HK1.out) (HQ.out.l.keep HK1.out) (by omega) (by omega)).mono ?_
   rintro e9 w2 ⟨rfl, K2⟩
   rw [HL.out]
   clear u0 y0
   have HK2 := Lib.hid (HK1.out.trans K2)
   have u0 := Blk.f (HB0.out.keep K2) rfl
   have y0 := Blk.f (HB1.out.keep K2) rfl
   clear K2
   go_wp2_with fail
   rw [HE.out]
   go_ret
   exact ⟨rfl, HK2.out⟩
  ·have dn : (T.now == un) = false := by simpa using h2
   have HE : Hid (sameD T ⟨T.c, ul, un, ur⟩ = false) := Lib.hid (by
    unfold sameD
    rw [decide_eq_false h2, Bool.false_and, Bool.and_false])
   clear h1 h2
   have u0 := Blk.f HB0.out rfl
   have y0 := Blk.f HB1.out rfl
   go_enter Tryz.func37, Tryz.ntmps37
   go_wp2_with fail
   clear hW
   refine (vbJ T.c A A2 m m2 _ (HS.out.own.keep HK0.out) (HQ.out.own.keep HK0.out) (by omega)).mono ?_
   rintro e9 w1 ⟨rfl, K1⟩
   clear u0 y0
   have HK1 := Lib.hid (HK0.out.trans K1)
   have u0 := Blk.f (HB0.out.keep K1) rfl
   have y0 := Blk.f (HB1.out.keep K1) rfl
   have HB0 := Lib.hid (HB0.out.keep K1)
   have HB1 := Lib.hid (HB1.out.keep K1)
   clear K1
   go_wp2_with fail
   refine (vaK T.l ul E E2 n n2 _ (HS.out.l.keep HK1.out) (HQ.out.l.keep HK1.out) (by omega) (by omega)).mono ?_
   rintro e9 w2 ⟨rfl, K2⟩
   rw [HL.out]
   clear u0 y0
   have HK2 := Lib.hid (HK1.out.trans K2)
   have u0 := Blk.f (HB0.out.keep K2) rfl
   have y0 := Blk.f (HB1.out.keep K2) rfl
   clear K2
   go_wp2_with fail
   rw [HE.out]
   go_ret
   exact ⟨rfl, HK2.out⟩
 ·have HL := Lib.hid (show decide (T.l = ul) = false from decide_eq_false h1)
  have HE : Hid (sameD T ⟨T.c, ul, un, ur⟩ = false) := Lib.hid (by
   unfold sameD
   rw [decide_eq_false h1, Bool.false_and])
  clear h1
  have u0 := Blk.f HB0.out rfl
  have y0 := Blk.f HB1.out rfl
  go_enter Tryz.func37, Tryz.ntmps37
  go_wp2_with fail
  clear hW
  refine (vbJ T.c A A2 m m2 _ (HS.out.own.keep HK0.out) (HQ.out.own.keep HK0.out) (by omega)).mono ?_
  rintro e9 w1 ⟨rfl, K1⟩
  clear u0 y0
  have HK1 := Lib.hid (HK0.out.trans K1)
  have u0 := Blk.f (HB0.out.keep K1) rfl
  have y0 := Blk.f (HB1.out.keep K1) rfl
  have HB0 := Lib.hid (HB0.out.keep K1)
  have HB1 := Lib.hid (HB1.out.keep K1)
  clear K1
  go_wp2_with fail
  refine (vaK T.l ul E E2 n n2 _ (HS.out.l.keep HK1.out) (HQ.out.l.keep HK1.out) (by omega) (by omega)).mono ?_
  rintro e9 w2 ⟨rfl, K2⟩
  rw [HL.out]
  clear u0 y0
  have HK2 := Lib.hid (HK1.out.trans K2)
  clear K2
  go_wp2_with fail
  rw [HE.out]
  go_ret
  exact ⟨rfl, HK2.out⟩
end

section
open Go.RowKit Go.Maps
theorem vnp {T U : Tb} (hc : U.c = T.c) : sameT T U = sameD T U := by
 unfold sameT sameD
 rw [vdt.2 hc.symm, Bool.true_and]
 rfl
theorem vlw {T U : Tb} (hc : U.c = T.c) : sameT U T = sameD T U := by
 unfold sameT sameD
 rw [vdt.2 hc, Bool.true_and]
 rw [Bool.eq_iff_iff]
 simp only [Bool.and_eq_true, decide_eq_true_eq, beq_iff_eq]
 constructor <;> (rintro ⟨h1, h2, h3⟩; exact ⟨h1.symm, h2.symm, h3.symm⟩)
set_option maxRecDepth 100000 in
theorem vev (c : Cf) (A A2 : Option Addr) (m m2 : Nat) (l : List Ac) (x y : Ac) (w : World) (hS : SlPI w A m c.own) (hw : ∀ k (hk : k < c.own.length), c.own[k].a < 4294967296) (hR : Rd w 9 Ac.enc A2 l) (hx : ∀ x ∈ l, x.fits) (hf : x.fits) (hg : y.fits) (hC : CapAt w) (hF : FacAt w) :
  Calls Tryz.prog 8 #[cfV c A c.own.length m, .slice A2 l.length m2, .agg (acC x), .agg (acC y)] w fun e w' => e = .returned (.bool true) ∧ Kp w w' := by
 have HXF := Lib.hid hf
 have HYF := Lib.hid hg
 clear hf hg
 have HC := Lib.hid hC
 have HF := Lib.hid hF
 have HS := Lib.hid hS
 have HW := Lib.hid hw
 have HR := Lib.hid hR
 have HX := Lib.hid hx
 clear hC hF hS hw hR hx
 obtain ⟨b, hb⟩ : ∃ b, w.heap.size = b := ⟨_, rfl⟩
 obtain ⟨W, hW, kW, B0, B1, B2⟩ := Blk.al3 hb (cfC c A c.own.length m) 24 (acC x) 33 (acC y) 33
 have HB0 := Lib.hid B0
 have HBa := Lib.hid B1
 have HBb := Lib.hid B2
 have HKW := Lib.hid kW
 unfold cfC acC at hW
 unfold acC
 have r0 := Blk.f B0 rfl
 clear B0 B1 B2 kW
 by_cases hf : (c.own.length : Int) ≤ 20
 ·have df : decide ((c.own.length : Int) ≤ 20) = true := decide_eq_true hf
  have HL20 := Lib.hid (show c.own.length ≤ 100000 by omega)
  clear hf
  by_cases h6 : l.length ≤ 25
  ·have d6 : decide (25 < (l.length : Int)) = false := decide_eq_false (by omega)
   have H25 := Lib.hid (show l.length ≤ 1000 by omega)
   clear h6
   cases ho : okCf c with
   | false =>
    have HO := Lib.hid ho
    clear ho
    go_enter Tryz.func8, Tryz.ntmps8
    go_wp2_with fail
    refine (vet c A _ m _).mono ?_
    rintro e w1 ⟨rfl, K1⟩
    rw [df]
    have s0 := Blk.f (HB0.out.keep K1) rfl
    go_wp2_with fail
    clear hW s0
    refine (vjx c A A2 m m2 l.length _ (HS.out.keep (HKW.out.trans K1)) HW.out HL20.out (HC.out.keep (HKW.out.trans K1)) HO.out).mono ?_
    rintro e w2 ⟨rfl, K2⟩
    have HK2 := Lib.hid ((HKW.out.trans K1).trans K2)
    clear K1 K2
    go_wp2_with fail
    refine (vcw _ (HC.out.keep (HK2.out.alloc _)) (HF.out.keep (HK2.out.alloc _))).mono ?_
    rintro e w5 ⟨rfl, K5⟩
    go_wp2_with fail
    go_ret
    exact ⟨rfl, (HK2.out.alloc _).trans K5⟩
   | true =>
    have HO := Lib.hid ho
    clear ho
    go_enter Tryz.func8, Tryz.ntmps8
    go_wp2_with fail
    refine (vet c A _ m _).mono ?_
    rintro e w1 ⟨rfl, K1⟩
    rw [df]
    have s0 := Blk.f (HB0.out.keep K1) rfl
    go_wp2_with fail
    clear hW s0
    have k1 := HKW.out.trans K1
    refine (vhE c A A2 m m2 l _ (HS.out.keep k1) HW.out HL20.out (HC.out.keep k1) (HF.out.keep k1) (HR.out.keep k1) HX.out H25.out HO.out).mono ?_
    rintro e w2 ⟨B, t, E, n, rfl, S2⟩
    have Hk1 := Lib.hid k1
    have HK1 := Lib.hid K1
    have S2 := Lib.hid S2
    clear k1 K1
    obtain ⟨T, hT⟩ : ∃ T, playT c l = T := ⟨_, rfl⟩
    have HTc : Hid (T.c = c) := Lib.hid (by rw [← hT]; exact vnN c l)
    rw [hT] at S2 ⊢
    clear hT
    obtain ⟨W3, hW3, kW3, B10⟩ := Blk.al1 (w := w2) rfl (tbR T A E m n) 39
    have S3 : Hid (∃ B, TQ w1 W3 B t T (fun V => RfM V T A E ∧ Blk V w2.heap.size 39 (tbR T A E m n))) := Lib.hid (by
     obtain ⟨B2, hQ⟩ := (TQ.moves w1).wide (bs := []) ⟨B, S2.out⟩ kW3 (by simp) (fun V => Blk V w2.heap.size 39 (tbR T A E m n)) (fun V hV => (hV _ (Nat.le_refl _) B10.lt).trans B10)
     exact ⟨B2, hQ.imp (fun V hV => ⟨hV.1 V (Only.refl _ _), hV.2⟩)⟩)
    unfold tbR at hW3
    clear kW3 B10 S2
    go_wp2_with fail
    clear hW3
    obtain ⟨b10, hb10⟩ : ∃ b10, w2.heap.size = b10 := ⟨_, rfl⟩
    rw [hb10] at S3 ⊢
    clear hb10
    obtain ⟨B3, Q3⟩ := S3.out
    have HLO : Hid (T.c.own.length ≤ 1000000) := Lib.hid (by rw [HTc.out]; have := HL20.out; omega)
    refine (vjp w1 W3 B3 t T _ Q3).mono ?_
    rintro e w4 ⟨u, rfl, S4, -⟩
    have HS4 := Lib.hid S4
    have HBX := ((HBa.out.keep HK1.out).keep S4.kp)
    have a0 := Blk.f (HBX) rfl
    have h4 := S4.p
    have u0 := Blk.f h4.2 rfl
    clear S3 Q3 S4 HBX h4
    go_wp2_with fail
    refine (vfN (TT.moves w1 W3.heap.size u T) t T A E m n x _ w4 ⟨B3, HS4.out⟩ (fun V hV => hV.1) HXF.out).mono ?_
    rintro e w5 ⟨t2, E2, n2, v5, v6, rfl, -, hst, S5⟩
    clear u0 a0
    obtain ⟨T2, hT2⟩ : ∃ T2, actT T x = T2 := ⟨_, rfl⟩
    have HC2 : Hid (T2.c = T.c) := Lib.hid (by rw [← hT2]; exact act_c T x)
    rw [hT2] at hst S5 ⊢
    clear hT2
    obtain ⟨W6, hW6, kW6, B14⟩ := Blk.al1 (w := w5) rfl (tbR T2 A E2 m n2) 39
    have S6 : Hid (∃ B, TT w1 W6 B t2 T2 W3.heap.size u T (fun V => ((RfM V T A E ∧ Blk V b10 39 (tbR T A E m n)) ∧ RfM V T2 A E2) ∧ Blk V w5.heap.size 39 (tbR T2 A E2 m n2))) := Lib.hid (by
     obtain ⟨B2, hQ⟩ := (TT.moves w1 W3.heap.size u T).wide (bs := []) S5 kW6 (by simp) (fun V => Blk V w5.heap.size 39 (tbR T2 A E2 m n2)) (fun V hV => (hV _ (Nat.le_refl _) B14.lt).trans B14)
     refine ⟨B2, hQ.imp (fun V hV => ?_)⟩
     have h1 := hV.1 V (Only.refl _ _)
     exact ⟨⟨h1.1, ⟨by rw [HC2.out]; exact h1.1.1.own, hst V h1.1.1.l h1.2⟩⟩, hV.2⟩)
    unfold tbR at hW6
    clear kW6 B14 S5 hst
    obtain ⟨B6, Q6⟩ := S6.out
    have HQ6 := Lib.hid Q6
    have HBX := ((HBb.out.keep HK1.out).keep Q6.kp)
    have a0 := Blk.f (HBX) rfl
    have h6 := Q6.p
    have u0 := Blk.f h6.1.1.2 rfl
    clear S6 Q6 HBX h6
    go_wp2_with fail
    clear hW6
    obtain ⟨b14, hb14⟩ : ∃ b14, w5.heap.size = b14 := ⟨_, rfl⟩
    rw [hb14] at HQ6 ⊢
    clear hb14
    refine (vfN (TT.moves w1 B6 t2 T2) u T A E m n y _ W6 ⟨W3.heap.size, HQ6.out.swap⟩ (fun V hV => hV.1.1.1) HYF.out).mono ?_
    rintro e w7 ⟨uu, E3, n3, v7, v8, rfl, -, hst, S7⟩
    clear u0 a0
    obtain ⟨U2, hU2⟩ : ∃ U2, actT T y = U2 := ⟨_, rfl⟩
    have HCU : Hid (U2.c = T.c) := Lib.hid (by rw [← hU2]; exact act_c T y)
    rw [hU2] at hst S7 ⊢
    clear hU2
    obtain ⟨W8, hW8, kW8, B16⟩ := Blk.al1 (w := w7) rfl (tbR U2 A E3 m n3) 39
    have S8 : Hid (∃ B, TT w1 W8 B uu U2 B6 t2 T2 (fun V => (RfM V T2 A E2 ∧ Blk V b14 39 (tbR T2 A E2 m n2)) ∧ RfM V U2 A E3)) := Lib.hid (by
     obtain ⟨B2, hQ⟩ := S7
     refine ⟨B2, (hQ.keep kW8).imp (fun V h1 => ?_)⟩
     exact ⟨⟨h1.1.1.2, h1.1.2⟩, ⟨by rw [HCU.out]; exact h1.1.1.1.1.own, hst V h1.1.1.1.1.l h1.2⟩⟩)
    have HB16 := Lib.hid B16
    have HN16 : Hid (w7.heap.size < W8.heap.size) := Lib.hid B16.lt
    unfold tbR at hW8
    clear kW8 B16 S7 hst HQ6
    obtain ⟨B8, Q8⟩ := S8.out
    have HQ8 := Lib.hid Q8
    have h8 := Q8.p
    have H8 := Lib.hid h8
    clear S8 Q8 h8
    obtain ⟨F8, hF8⟩ := HQ8.out.fst.tab
    obtain ⟨G8, hG8⟩ := HQ8.out.snd.tab
    have HF8 := Lib.hid hF8
    have HG8 := Lib.hid hG8
    have HLT : Hid (T2.l.length ≤ 256) := Lib.hid (vcr HQ8.out.gu.ok)
    have HLU : Hid (U2.l.length ≤ 256) := Lib.hid (vcr HQ8.out.gt.ok)
    have HLOT : Hid (T2.c.own.length ≤ 1000000) := Lib.hid (by rw [HC2.out]; exact HLO.out)
    have HLOU : Hid (U2.c.own.length ≤ 1000000) := Lib.hid (by rw [HCU.out]; exact HLO.out)
    have x0 := Blk.f H8.out.1.2 rfl
    have y0 := Blk.f HB16.out rfl
    clear hF8 hG8
    go_wp2_with fail
    clear hW8
    obtain ⟨b16, hb16⟩ : ∃ b16, w7.heap.size = b16 := ⟨_, rfl⟩
    rw [hb16] at HB16 ⊢
    clear hb16
    refine (vfQ T2 U2 A E2 A E3 m n2 m n3 W8 (HCU.out.trans HC2.out.symm) H8.out.1.1 H8.out.2 HLOT.out (by have := HLT.out; omega) (by have := HLU.out; omega)).mono ?_
    rintro e w9 ⟨rfl, K9⟩
    have HS1 : Hid (sameT T2 U2 = sameD T2 U2) := Lib.hid (vnp (HCU.out.trans HC2.out.symm))
    have HS2 : Hid (sameT U2 T2 = sameD T2 U2) := Lib.hid (vlw (HCU.out.trans HC2.out.symm))
    obtain ⟨sm, hsm⟩ : ∃ sm, sameD T2 U2 = sm := ⟨_, rfl⟩
    rw [hsm] at HS1 HS2 ⊢
    have HK9 := Lib.hid K9
    have x0 := Blk.f (H8.out.1.2.keep K9) rfl
    clear y0 hsm K9
    go_wp2_with fail
    refine (vlR B6 t2 G8 T2 A E2 m n2 w9 (HG8.out.keep HK9.out) (H8.out.1.1.keep HK9.out) (by have := HLT.out; omega) HLOT.out).mono ?_
    rintro e wa ⟨rfl, Ka⟩
    have HKa := Lib.hid (HK9.out.trans Ka)
    have y0 := Blk.f (HB16.out.keep HKa.out) rfl
    clear x0 Ka
    go_wp2_with fail
    refine (vlR B8 uu F8 U2 A E3 m n3 wa (HF8.out.keep HKa.out) (H8.out.2.keep HKa.out) (by have := HLU.out; omega) HLOU.out).mono ?_
    rintro e wb ⟨rfl, Kb⟩
    have HKb := Lib.hid (HKa.out.trans Kb)
    clear y0 Kb
    go_wp2_with fail
    refine (vfe B6 B8 t2 uu G8 F8 T2 U2 wb (HG8.out.keep HKb.out) (HF8.out.keep HKb.out) HLOT.out HLOU.out).mono ?_
    rintro e wc ⟨rfl, Kc⟩
    rw [HS1.out]
    have HKc := Lib.hid (HKb.out.trans Kc)
    clear Kc
    go_wp2_with fail
    refine (vfe B8 B6 uu t2 F8 G8 U2 T2 wc (HF8.out.keep HKc.out) (HG8.out.keep HKc.out) HLOU.out HLOT.out).mono ?_
    rintro e wd ⟨rfl, Kd⟩
    rw [HS2.out]
    have HKd := Lib.hid (HKc.out.trans Kd)
    clear Kd
    go_wp2_with fail
    refine (vjm B6 t2 G8 T2 wd (HG8.out.keep HKd.out)).mono ?_
    rintro e we ⟨rfl, Ke⟩
    have HKe : Hid (Kp w we) := Lib.hid (((Hk1.out.trans HQ8.out.kp).trans HKd.out).trans Ke)
    clear Ke
    go_wp2_with fail
    refine (vcw _ (HC.out.keep HKe.out) (HF.out.keep HKe.out)).mono ?_
    rintro e wf ⟨rfl, Kf⟩
    go_wp2_with fail
    go_ret
    exact ⟨rfl, HKe.out.trans Kf⟩
  ·have d6 : decide (25 < (l.length : Int)) = true := decide_eq_true (by omega)
   go_enter Tryz.func8, Tryz.ntmps8
   go_wp2_with fail
   refine (vet c A _ m _).mono ?_
   rintro e w1 ⟨rfl, K1⟩
   rw [df]
   go_wp2_with fail
   refine (vcw _ (HC.out.keep (HKW.out.trans K1)) (HF.out.keep (HKW.out.trans K1))).mono ?_
   rintro e w5 ⟨rfl, K5⟩
   go_wp2_with fail
   go_ret
   exact ⟨rfl, (HKW.out.trans K1).trans K5⟩
 ·have df : decide ((c.own.length : Int) ≤ 20) = false := decide_eq_false hf
  go_enter Tryz.func8, Tryz.ntmps8
  go_wp2_with fail
  refine (vet c A _ m _).mono ?_
  rintro e w1 ⟨rfl, K1⟩
  rw [df]
  go_wp2_with fail
  refine (vcw _ (HC.out.keep (HKW.out.trans K1)) (HF.out.keep (HKW.out.trans K1))).mono ?_
  rintro e w5 ⟨rfl, K5⟩
  go_wp2_with fail
  go_ret
  exact ⟨rfl, (HKW.out.trans K1).trans K5⟩
end

section
open Go.ChangeShapes Go.WideShapes Go.ChangeAt Go.RowKit Go.Joins Go.Deep
section
variable {H : Type} {enc : TypeId × Value → H}
theorem vfh {α : Type} {W : World} {fuel : Nat} {v : Value} {x : DataW H × List MemPlace} {t e sz : Nat} (enc' : α → List Value) (good : α → Prop) (henc : ∀ y, (enc' y).length = sz) (ht : Tryz.prog.underlying t = some (.slice e)) (hsz : Tryz.prog.cellsOf e = sz) (hs0 : 0 < sz)
  (hel : ∀ (cs : List Value) (n : Nat) (x : DataW H × List MemPlace), DataW.trod enc Tryz.prog W 0 (fun _ => true) true n e cs = some x → ∃ y, cs = enc' y ∧ good y)
  (h : DataW.trod enc Tryz.prog W 0 (fun _ => true) true fuel t [v] = some x) : ∃ A c ys, v = .slice A ys.length c ∧ ys.length ≤ c ∧ (A = none → ys = [] ∧ c = 0) ∧ Rd W sz enc' A ys ∧ ∀ y ∈ ys, good y := by
 obtain ⟨A, c, ys, rfl, _, hrd, hg⟩ := vdr enc' good henc ht hsz hs0 hel h
 rcases DataW.trod_slice ht h with ⟨hc, _⟩ | ⟨a, len, cap, elems, rest, n, _, hc, _, _, hl, _⟩
 ·simp only [List.cons.injEq, and_true, Value.slice.injEq] at hc
  obtain ⟨h1, h2, h3⟩ := hc
  exact ⟨A, c, ys, rfl, by omega, fun _ => ⟨List.eq_nil_of_length_eq_zero h2, h3⟩, hrd, hg⟩
 ·simp only [List.cons.injEq, and_true, Value.slice.injEq] at hc
  obtain ⟨h1, h2, h3⟩ := hc
  exact ⟨A, c, ys, rfl, by omega, (fun z => by rw [z] at h1; cases h1), hrd, hg⟩
set_option maxRecDepth 100000 in
theorem vjy {W : World} (cs : List Value) (n : Nat) (x : DataW H × List MemPlace) (h : DataW.trod enc Tryz.prog W 0 (fun _ => true) true n 24 cs = some x) : ∃ (c : Cf) (A : Option Addr) (m : Nat), cs = (cfC c A c.own.length m).toList ∧ SlPI W A m c.own ∧ ∀ p ∈ c.own, p.a < 4294967296 := by
 obtain ⟨xs, m, _, _, hl, hlen, hf⟩ := DataW.trod_struct Tryz.underlying24 h
 have hC : Tryz.prog.cellsOf 24 = 9 := by kernel_rfl
 have hC0 : Tryz.prog.cellsOf 2 = 1 := by kernel_rfl
 have hC1 : Tryz.prog.cellsOf 3 = 1 := by kernel_rfl
 have hC2 : Tryz.prog.cellsOf 22 = 1 := by kernel_rfl
 rw [hC] at hl
 obtain ⟨c0, c1, c2, c3, c4, c5, c6, c7, c8, rfl⟩ := lenL9 hl
 obtain ⟨y0, y1, y2, y3, y4, y5, y6, y7, y8, rfl⟩ := lenL9 hlen
 clear hl hlen hC h
 have e0 : DataW.trod enc Tryz.prog W 0 (fun _ => true) true m 2 [c0] = some y0 := by
  have this : DataW.trod enc Tryz.prog W 0 (fun _ => true) true m 2 (([c0, c1, c2, c3, c4, c5, c6, c7, c8].drop 0).take (Tryz.prog.cellsOf 2)) = some y0 := hf 0 _ rfl
  rw [hC0] at this; exact this
 have e1 : DataW.trod enc Tryz.prog W 0 (fun _ => true) true m 2 [c1] = some y1 := by
  have this : DataW.trod enc Tryz.prog W 0 (fun _ => true) true m 2 (([c0, c1, c2, c3, c4, c5, c6, c7, c8].drop 1).take (Tryz.prog.cellsOf 2)) = some y1 := hf 1 _ rfl
  rw [hC0] at this; exact this
 have e2 : DataW.trod enc Tryz.prog W 0 (fun _ => true) true m 2 [c2] = some y2 := by
  have this : DataW.trod enc Tryz.prog W 0 (fun _ => true) true m 2 (([c0, c1, c2, c3, c4, c5, c6, c7, c8].drop 2).take (Tryz.prog.cellsOf 2)) = some y2 := hf 2 _ rfl
  rw [hC0] at this; exact this
 have e3 : DataW.trod enc Tryz.prog W 0 (fun _ => true) true m 2 [c3] = some y3 := by
  have this : DataW.trod enc Tryz.prog W 0 (fun _ => true) true m 2 (([c0, c1, c2, c3, c4, c5, c6, c7, c8].drop 3).take (Tryz.prog.cellsOf 2)) = some y3 := hf 3 _ rfl
  rw [hC0] at this; exact this
 have e4 : DataW.trod enc Tryz.prog W 0 (fun _ => true) true m 2 [c4] = some y4 := by
  have this : DataW.trod enc Tryz.prog W 0 (fun _ => true) true m 2 (([c0, c1, c2, c3, c4, c5, c6, c7, c8].drop 4).take (Tryz.prog.cellsOf 2)) = some y4 := hf 4 _ rfl
  rw [hC0] at this; exact this
 have e5 : DataW.trod enc Tryz.prog W 0 (fun _ => true) true m 2 [c5] = some y5 := by
  have this : DataW.trod enc Tryz.prog W 0 (fun _ => true) true m 2 (([c0, c1, c2, c3, c4, c5, c6, c7, c8].drop 5).take (Tryz.prog.cellsOf 2)) = some y5 := hf 5 _ rfl
  rw [hC0] at this; exact this
 have e6 : DataW.trod enc Tryz.prog W 0 (fun _ => true) true m 2 [c6] = some y6 := by
  have this : DataW.trod enc Tryz.prog W 0 (fun _ => true) true m 2 (([c0, c1, c2, c3, c4, c5, c6, c7, c8].drop 6).take (Tryz.prog.cellsOf 2)) = some y6 := hf 6 _ rfl
  rw [hC0] at this; exact this
 have e7 : DataW.trod enc Tryz.prog W 0 (fun _ => true) true m 3 [c7] = some y7 := by
  have this : DataW.trod enc Tryz.prog W 0 (fun _ => true) true m 3 (([c0, c1, c2, c3, c4, c5, c6, c7, c8].drop 7).take (Tryz.prog.cellsOf 3)) = some y7 := hf 7 _ rfl
  rw [hC1] at this; exact this
 have e8 : DataW.trod enc Tryz.prog W 0 (fun _ => true) true m 22 [c8] = some y8 := by
  have this : DataW.trod enc Tryz.prog W 0 (fun _ => true) true m 22 (([c0, c1, c2, c3, c4, c5, c6, c7, c8].drop 8).take (Tryz.prog.cellsOf 22)) = some y8 := hf 8 _ rfl
  rw [hC2] at this; exact this
 clear hf
 obtain ⟨t0, h0, _, _⟩ := DataW.trod_int Tryz.underlying2 e0
 obtain ⟨t1, h1, _, _⟩ := DataW.trod_int Tryz.underlying2 e1
 obtain ⟨t2, h2, _, _⟩ := DataW.trod_int Tryz.underlying2 e2
 obtain ⟨t3, h3, _, _⟩ := DataW.trod_int Tryz.underlying2 e3
 obtain ⟨t4, h4, _, _⟩ := DataW.trod_int Tryz.underlying2 e4
 obtain ⟨t5, h5, _, _⟩ := DataW.trod_int Tryz.underlying2 e5
 obtain ⟨t6, h6, _, _⟩ := DataW.trod_int Tryz.underlying2 e6
 obtain ⟨t7, h7, _, _⟩ := DataW.trod_int Tryz.underlying3 e7
 obtain ⟨A, k, ps, h8, hle, hnil, hrd, hg⟩ := vfh (sz := 2) PI.enc (fun p => p.a < 4294967296) (fun _ => rfl) Tryz.underlying22 (by kernel_rfl) (by omega) (fun cs n x h => by
  obtain ⟨p, hp, ha, _⟩ := vlO cs n x h
  exact ⟨p, hp, ha⟩) e8
 clear e0 e1 e2 e3 e4 e5 e6 e7 e8
 simp only [List.cons.injEq, and_true] at h0 h1 h2 h3 h4 h5 h6 h7
 subst h0 h1 h2 h3 h4 h5 h6 h7 h8
 exact ⟨⟨t0, t1, t2, t3, t4, t5, t6, t7, ps⟩, A, k, rfl, ⟨hrd, hle, hnil⟩, hg⟩
set_option maxRecDepth 100000 in
theorem vfR {W : World} {base : Nat} {v : Value} {d : DataW H} {p : List MemPlace} (hv : Value.okWide Tryz.prog W .any base 24 v) (h : DataW.Trod enc Tryz.prog W 0 (fun _ => true) true 24 v d p) : ∃ (c : Cf) (A : Option Addr) (m : Nat), v = cfV c A c.own.length m ∧ SlPI W A m c.own ∧ ∀ k (hk : k < c.own.length), c.own[k].a < 4294967296 := by
 obtain ⟨cs, rfl, hsz⟩ := okWide_struct Tryz.underlying24 hv
 obtain ⟨fuel, hf⟩ := h
 obtain ⟨c, A, m, hx, hS, hfit⟩ := vjy _ _ _ hf
 refine ⟨c, A, m, ?_, hS, fun k hk => hfit _ (List.getElem_mem hk)⟩
 have : cs = cfC c A c.own.length m := by
  apply Array.ext'
  simpa [Value.cells] using hx
 rw [this]
 rfl
set_option maxRecDepth 100000 in
theorem vjz {W : World} {base : Nat} {v : Value} {d : DataW H} {p : List MemPlace} (hv : Value.okWide Tryz.prog W .any base 25 v) (h : DataW.Trod enc Tryz.prog W 0 (fun _ => true) true 25 v d p) : ∃ A c ls, v = .slice A ls.length c ∧ Rd W 9 Ac.enc A ls ∧ ∀ x ∈ ls, x.fits := by
 obtain ⟨a, l, cp, rfl⟩ := okWide_slice Tryz.underlying25 hv
 obtain ⟨n, h⟩ := h
 obtain ⟨A, c, ls, hl, _, hrd, hg⟩ := vdr (sz := 9) Ac.enc Ac.fits (fun _ => rfl) Tryz.underlying25 (by kernel_rfl) (by omega) (fun cs n x h => by
  obtain ⟨y, hy, hf⟩ := vlP cs n x h
  exact ⟨y, hy, hf⟩) h
 exact ⟨A, c, ls, hl, hrd, hg⟩
end
end

section
open Go.ChangeShapes Go.WideShapes Go.ChangeAt Go.RowKit
theorem gCap : Tryz.prog.globalNamed "waywarden/config.capBounds" = some 1 := by kernel_rfl
theorem tCap : (Tryz.prog.globals[1]?).map (·.type) = some 118 := by kernel_rfl
theorem gFac : Tryz.prog.globalNamed "waywarden/rib.faceBounds" = some 0 := by kernel_rfl
theorem tFac : (Tryz.prog.globals[0]?).map (·.type) = some 118 := by kernel_rfl
def bndLaid : List (String × DataW Unit) := [("waywarden/config.capBounds", Rows.laid_waywarden_config_capBounds), ("waywarden/rib.faceBounds", Rows.laid_waywarden_rib_faceBounds)]
theorem vjA {H : Type} {enc : TypeId × Value → H} {W : World} {base fuel : Nat} {sp : Nat → Bool} {held : Bool} {c : List Value} {p : List MemPlace} {a : Int}
  (h : DataW.trod enc Tryz.prog W base sp held fuel 3 c = some (.lit (.int .i64 a), p)) : c = [.int .i64 a] := by
 obtain ⟨n, e1, e2, _⟩ := DataW.trod_int Tryz.underlying3 h
 simp only [Prod.mk.injEq, DataW.lit.injEq, Lit.int.injEq] at e2
 rw [e1, e2.1.2]
theorem len2b {l : List Value} (h : l.length = 2) : ∃ a b, l = [a, b] := by
 match l, h with
 | [a, b], _ => exact ⟨a, b, rfl⟩
set_option maxRecDepth 100000 in
theorem vjB {H : Type} {enc : TypeId × Value → H} {W : World} {base fuel : Nat} {sp : Nat → Bool} {held : Bool} {c : List Value} {p : List MemPlace} {a b : Int}
  (h : DataW.trod enc Tryz.prog W base sp held fuel 118 c = some (.agg [.lit (.int .i64 a), .lit (.int .i64 b)], p)) : c = [.int .i64 a, .int .i64 b] := by
 obtain ⟨xs, m, rfl, hx, hlen, hn, hel⟩ := DataW.trod_array Tryz.underlying118 h
 have c1 : Tryz.prog.cellsOf 3 = 1 := by kernel_rfl
 have c2 : Tryz.prog.cellsOf 118 = 2 := by kernel_rfl
 rw [c2] at hlen
 rw [c1] at hel
 have h0 := hel 0 (by decide)
 have h1 := hel 1 (by decide)
 match xs, hn, hx, h0, h1 with
 | [(x0, p0), (x1, p1)], _, hx, h0, h1 =>
  simp only [List.map_cons, List.map_nil, Prod.mk.injEq, DataW.agg.injEq, List.cons.injEq, and_true] at hx
  obtain ⟨⟨rfl, rfl⟩, _⟩ := hx
  have e0 := vjA (show DataW.trod _ Tryz.prog W _ _ _ m _ _ = some (_, p0) from h0)
  have e1 := vjA (show DataW.trod _ Tryz.prog W _ _ _ m _ _ = some (_, p1) from h1)
  obtain ⟨u, v, rfl⟩ := len2b hlen
  simp at e0 e1
  rw [e0, e1]
set_option maxRecDepth 100000 in
theorem vdu {W : World} (h : laidMetH Tryz.prog bndLaid W) : CapAt W ∧ FacAt W := by
 unfold bndLaid at h
 rw [MakeChecks.laidMetH_plain _ _ _ (by kernel_rfl)] at h
 obtain ⟨ps, ⟨g0, t0, cs0, f0, p0, q0, hg0, ht0, hv0, hd0, ⟨g1, t1, cs1, f1, p1, q1, hg1, ht1, hv1, hd1, _, _⟩, _⟩, _, _⟩ := h
 obtain rfl := Option.some.inj (gCap.symm.trans hg0)
 obtain rfl := Option.some.inj (tCap.symm.trans ht0)
 obtain rfl := Option.some.inj (gFac.symm.trans hg1)
 obtain rfl := Option.some.inj (tFac.symm.trans ht1)
 have a0 := World.var?_cell hg0 hv0 0
 have a1 := World.var?_cell hg0 hv0 1
 have b0 := World.var?_cell hg1 hv1 0
 have b1 := World.var?_cell hg1 hv1 1
 have e0 := vjB (show DataW.trod _ Tryz.prog W _ _ _ _ _ _ = some (.agg [.lit (.int .i64 1), .lit (.int .i64 256)], _) from hd0)
 have e1 := vjB (show DataW.trod _ Tryz.prog W _ _ _ _ _ _ = some (.agg [.lit (.int .i64 0), .lit (.int .i64 15)], _) from hd1)
 obtain ⟨l⟩ := cs0
 obtain ⟨m⟩ := cs1
 simp only at e0 e1
 subst e0 e1
 simp at a0 a1 b0 b1
 exact ⟨⟨a0, a1⟩, ⟨b0, b1⟩⟩
theorem vlx (os : Os) (args : Array Value) : laidMetH Tryz.prog bndLaid ((World.doorLaid Tryz.prog 400 os).forCall (fun _ _ => 0) ⟨#[], args, []⟩).memory :=
 laidMetH_of_parts3 (fuel := 8) (laidMet_of_run' 8 (by kernel_rfl) (by kernel_rfl)) (by kernel_rfl) (by kernel_rfl)
end

end Go.Proofs.YtffckpkikdlbpaaGreatDoor
