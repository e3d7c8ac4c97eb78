/- Lemmas and contracts for the theorem of this claim: IsT. -/
import Derived.Test.YtffckpkikdlbpaaGreatDoorZuBc
import Derived.Test.YtffckpkikdlbpaaGreatDoorZuBl
set_option linter.all false
set_option maxHeartbeats 16000000
namespace Go.Proofs.YtffckpkikdlbpaaGreatDoor
section
open Go.RowKit Go.Maps
theorem vlj (L : List Rt) : nextV L = .tuple #[.int .i64 ((firstR L).getD zeroR).d, .bool (firstR L).isSome] := by
 unfold nextV
 cases firstR L <;> rfl
structure IsZ where
 b : Nat
 a : Option Addr
 c : Nat
 a1 : Option Addr
 c1 : Nat
 e2 : Option Addr
 n2 : Nat
 a3 : Option Addr
 m3 : Nat
structure IsM (wc : World) (T : Tb) (z : IsZ) (L : Nat → Bool) (W : World) : Prop where
 kp : Kp wc W
 al : L 1 = true → AllM z.b z.a z.c T.l W
 ch : L 7 = true → Rd W 9 Rt.enc z.a1 (newsL T.l)
 rc : L 9 = true → Rd W 9 Rt.enc z.e2 (newsL T.l)
 cf : L 47 = true → Rd W 2 PI.enc z.a3 T.c.own
theorem IsM.start {wc : World} {T : Tb} {z : IsZ} : IsM wc T z (fun _ => false) wc.drew := ⟨(Kp.refl _).drew, fun h => (by cases h), fun h => (by cases h), fun h => (by cases h), fun h => (by cases h)⟩
section
variable {wc W W' : World} {T : Tb} {z : IsZ} {L : Nat → Bool}
theorem IsM.cong {L' : Nat → Bool} (e : ∀ j ∈ [1, 7, 9, 47], L' j = L j) (h : IsM wc T z L W) : IsM wc T z L' W :=
 ⟨h.kp, fun d => h.al (e 1 (by simp) ▸ d), fun d => h.ch (e 7 (by simp) ▸ d), fun d => h.rc (e 9 (by simp) ▸ d), fun d => h.cf (e 47 (by simp) ▸ d)⟩
theorem IsM.to (h : IsM wc T z L W) (i : Nat) (hi : (i == 1 || i == 7 || i == 9 || i == 47) = false) (k : Kp W W') : IsM wc T z (fun j => j == i || L j) W' := by
 simp only [Bool.or_eq_false_iff, beq_eq_false_iff_ne, ne_eq] at hi
 obtain ⟨⟨⟨h1, h7⟩, h9⟩, h47⟩ := hi
 have e : ∀ j, j ≠ i → (j == i || L j) = L j := fun j hj => by simp [hj]
 exact ⟨h.kp.trans k, fun d => (h.al (e 1 (Ne.symm h1) ▸ d)).keep k, fun d => (h.ch (e 7 (Ne.symm h7) ▸ d)).keep k, fun d => (h.rc (e 9 (Ne.symm h9) ▸ d)).keep k, fun d => (h.cf (e 47 (Ne.symm h47) ▸ d)).keep k⟩
theorem IsM.at1 {b : Nat} {a : Option Addr} {c : Nat} (h : IsM wc T z L W) (hA : AllM b a c T.l W') (k : Kp W W') : IsM wc T { z with b := b, a := a, c := c } (fun j => j == 1 || L j) W' :=
 ⟨h.kp.trans k, fun _ => hA, fun d => (h.ch d).keep k, fun d => (h.rc d).keep k, fun d => (h.cf d).keep k⟩
theorem IsM.at7 {a : Option Addr} {c : Nat} (h : IsM wc T z L W) (hA : Rd W' 9 Rt.enc a (newsL T.l)) (k : Kp W W') : IsM wc T { z with a1 := a, c1 := c } (fun j => j == 7 || L j) W' :=
 ⟨h.kp.trans k, fun d => (h.al d).keep k, fun _ => hA, fun d => (h.rc d).keep k, fun d => (h.cf d).keep k⟩
theorem IsM.at9 {a : Option Addr} {c : Nat} (h : IsM wc T z L W) (hA : Rd W' 9 Rt.enc a (newsL T.l)) (k : Kp W W') : IsM wc T { z with e2 := a, n2 := c } (fun j => j == 9 || L j) W' :=
 ⟨h.kp.trans k, fun d => (h.al d).keep k, fun d => (h.ch d).keep k, fun _ => hA, fun d => (h.cf d).keep k⟩
theorem IsM.at47 {a : Option Addr} {c : Nat} (h : IsM wc T z L W) (hA : Rd W' 2 PI.enc a T.c.own) (k : Kp W W') : IsM wc T { z with a3 := a, m3 := c } (fun j => j == 47 || L j) W' :=
 ⟨h.kp.trans k, fun d => (h.al d).keep k, fun d => (h.ch d).keep k, fun d => (h.rc d).keep k, fun _ => hA⟩
end
set_option maxRecDepth 100000 in
theorem vgy (B t : Nat) (F : List Nat) (T : Tb) (A E : Option Addr) (m n : Nat) (w : World) (hT : TabM w B t F T) (hR : RfM w T A E) (hl : T.l.length ≤ 900000) (ho : T.c.own.length ≤ 1000000) :
  Calls Tryz.prog 31 #[.pointer (some ⟨t, 0, none⟩), tbV T A E m n] w fun e w' => e = .returned (.bool true) ∧ Kp w w' := by
 obtain ⟨b, hb⟩ : ∃ b, w.heap.size = b := ⟨_, rfl⟩
 obtain ⟨W, hW, kW, B0⟩ := Blk.al1 hb (tbR T A E m n) 39
 have HT := Lib.hid (hT.keep kW)
 have HR := Lib.hid (hR.keep kW)
 have HL := Lib.hid hl
 have HL2 : Hid ((newsL T.l).length ≤ 1000000) := Lib.hid (by have := vfE T.l; omega)
 have HLO := Lib.hid ho
 have HB0 := Lib.hid B0
 have HkW := Lib.hid kW
 obtain ⟨due, hdue⟩ : ∃ due, ((firstR T.l).getD zeroR).d = due := ⟨_, rfl⟩
 obtain ⟨had, hhad⟩ : ∃ had, (firstR T.l).isSome = had := ⟨_, rfl⟩
 have HNX : Hid (nextV T.l = .tuple #[.int .i64 due, .bool had]) := Lib.hid (by rw [vlj, hdue, hhad])
 obtain ⟨FR, hFR⟩ : ∃ FR, (firstR T.l).getD zeroR = FR := ⟨_, rfl⟩
 have HDU : Hid (FR.d = due) := Lib.hid (by rw [← hFR]; exact hdue)
 have HFR := Lib.hid hFR
 have HHAD := Lib.hid hhad
 unfold tbR at hW
 clear hT hR hl ho B0 kW hdue hhad hFR
 go_enter Tryz.func31, Tryz.ntmps31
 go_wp2_with fail
 clear hW
 refine (veP B t F T _ HT.out).mono ?_
 rintro e w1 ⟨rfl, K1⟩
 rw [HNX.out]
 have HT := Lib.hid (HT.out.keep K1)
 have HR := Lib.hid (HR.out.keep K1)
 have HB0 := Lib.hid (HB0.out.keep K1)
 have HkW := Lib.hid (HkW.out.trans K1)
 obtain ⟨u0, u1, u2, u3, u4, u5, u6, u7, u8, u9, u10, u11⟩ := vaI HB0.out
 clear K1
 go_wp2_with fail
 refine (vcM T A E m n _ HR.out.l HL.out).mono ?_
 rintro e w2 ⟨rfl, K2⟩
 rw [HFR.out, HHAD.out]
 clear u0 u1 u2 u3 u4 u5 u6 u7 u8 u9 u10 u11
 obtain ⟨W3, hW3, kW3, B7⟩ := Blk.al1 (w := w2) rfl (roC FR) 48
 have k3 := K2.trans kW3
 have HT := Lib.hid (HT.out.keep k3)
 have HR := Lib.hid (HR.out.keep k3)
 have HB0 := Lib.hid (HB0.out.keep k3)
 have HkW := Lib.hid (HkW.out.trans k3)
 have HB7 := Lib.hid B7
 unfold roC at hW3
 clear K2 kW3 k3 B7
 go_upto_region 3 with (fail)
 clear hW3
 obtain ⟨b7, hb7⟩ : ∃ b7, w2.heap.size = b7 := ⟨_, rfl⟩
 rw [hb7] at HB7 ⊢
 clear hb7
 refine' vag (IsM W3 T) [19, 20, 21, 22, 23, 24, 25, 26, 27, 28, 29, 30, 31, 32, 33, 34, 35, 36, 37, 38, 39, 40, 41, 42, 43, 44, 45, 46, 47, 48, 49, 50, 51, 52, 53, 54, 55, 56, 57, 58, 59, 60, 61, 62, 63, 64, 65, 66, 67, 68, 69, 70, 4] (fun z => [.pointer (some ⟨t, 0, none⟩), allV z.b, .pointer (some ⟨b, 9, none⟩), .slice E T.l.length n, .bool true, .bool true, .pointer (some ⟨t, 0, none⟩), .slice z.a1 (newsL T.l).length z.c1, .agg #[.int .i64 T.c.t0, .int .i64 T.c.t1, .int .i64 T.c.t2, .int .i64 T.c.t3, .int .i64 T.c.t4, .int .i64 T.c.t5, .int .i64 T.c.t6, .int .i64 T.c.cap, .slice A T.c.own.length m, .slice E T.l.length n, .int .i64 T.now, .int .i64 T.rf], .slice z.e2 (newsL T.l).length z.n2, .bool true, .bool true, .bool true, .bool had, .bool had, .bool true, .bool true, .bool true, .int .i64 due, .pointer (some ⟨b7, 7, none⟩), .int .i64 due, .bool true, .bool true, .bool true, .pointer (some ⟨t, 0, none⟩), .int .i64 (T.l.length : Int), .pointer (some ⟨b, 9, none⟩), .slice E T.l.length n, .int .i64 (T.l.length : Int), .bool true, .bool true, .bool true, .pointer (some ⟨t, 0, none⟩), .int .i64 T.rf, .pointer (some ⟨b, 11, none⟩), .int .i64 T.rf, .bool true, .bool true, .bool true, .pointer (some ⟨t, 0, none⟩), .int .i64 T.now, .pointer (some ⟨b, 10, none⟩), .int .i64 T.now, .bool true, .bool true, .bool true, .pointer (some ⟨t, 0, none⟩), .agg #[.int .i64 T.c.t0, .int .i64 T.c.t1, .int .i64 T.c.t2, .int .i64 T.c.t3, .int .i64 T.c.t4, .int .i64 T.c.t5, .int .i64 T.c.t6, .int .i64 T.c.cap, .slice z.a3 T.c.own.length z.m3], .pointer (some ⟨b, 0, none⟩), .agg #[.int .i64 T.c.t0, .int .i64 T.c.t1, .int .i64 T.c.t2, .int .i64 T.c.t3, .int .i64 T.c.t4, .int .i64 T.c.t5, .int .i64 T.c.t6, .int .i64 T.c.cap, .slice A T.c.own.length m], .bool true, .bool true, .bool true]) (List.replicate 53 true) [1, 7, 9, 47] (by kernel_rfl) (by kernel_rfl) (fun _ => rfl) (fun _ => rfl) (fun _ => rfl) ⟨0, none, 0, none, 0, none, 0, none, 0⟩ IsM.start (fun _ _ _ _ e h => IsM.cong e h) ?_ ?_ ?_
 rotate_left
 ·intro z; simp only [List.zip_cons_cons, List.zip_nil_right, wrC, wrN, List.set_cons_zero, List.set_cons_succ, List.set_nil]; rfl
 ·repeat' (first | refine And.intro ?_ ?_ | exact trivial)
  all_goals intro z L a w9 hLi d hcl hM hO K hK
  all_goals have u := Blk.f (HB0.out.keep hM.kp) rfl
  all_goals have c : w9.cell? ⟨b7, 7, none⟩ = some (.int .i64 due) := by rw [← HDU.out]; exact (HB7.out.keep hM.kp).cell 7
  all_goals try (go_simp; exact hK z _ _ (hO rfl) (fun _ _ => rfl) rfl)
  ·go_simp
   refine (viZ B t F T _ (HT.out.keep hM.kp)).mono ?_
   rintro e9 wb ⟨bx, a9, c9, rfl, hA9, hKc, -, -⟩
   exact hK { z with b := bx, a := a9, c := c9 } _ _ (hM.at1 hA9 hKc) (but1 hLi rfl) rfl
  ·go_simp
   refine (vep z.b z.a E z.c n T.l 999 _ (hM.al (d 1 rfl)) (HR.out.l.keep hM.kp) HL.out (by decide)).mono ?_
   rintro e9 wb ⟨rfl, hKc⟩
   exact hK z _ _ (hM.to 4 rfl hKc) (fun _ _ => rfl) rfl
  ·go_simp
   refine (vcc B t F T _ (HT.out.keep hM.kp)).mono ?_
   rintro e9 wb ⟨a9, c9, rfl, hO9, hKc⟩
   exact hK { z with a1 := a9, c1 := c9 } _ _ (hM.at7 (Own.rdAt (by decide) Rt.len hO9) hKc) (but1 hLi rfl) rfl
  ·go_simp
   refine (vbN T A E m n _ (HR.out.l.keep hM.kp) HL.out).mono ?_
   rintro e9 wb ⟨a9, c9, rfl, hO9, hKc⟩
   exact hK { z with e2 := a9, n2 := c9 } _ _ (hM.at9 hO9 hKc) (but1 hLi rfl) rfl
  ·go_simp
   refine (vdu (newsL T.l) (newsL T.l) z.a1 z.e2 z.c1 z.n2 _ (hM.ch (d 7 rfl)) (hM.rc (d 9 rfl)) HL2.out HL2.out).mono ?_
   rintro e9 wb ⟨rfl, hKc⟩
   rw [decide_eq_true rfl]
   exact hK z _ _ (hM.to 10 rfl hKc) (fun _ _ => rfl) rfl
  ·go_simp
   refine (vei B t F T _ (HT.out.keep hM.kp)).mono ?_
   rintro e9 wb ⟨rfl, hwb⟩
   rw [hwb]
   exact hK z _ _ (hO rfl) (fun _ _ => rfl) rfl
  ·go_simp
   refine (vdl B t F T _ (HT.out.keep hM.kp)).mono ?_
   rintro e9 wb ⟨rfl, hwb⟩
   rw [hwb]
   exact hK z _ _ (hO rfl) (fun _ _ => rfl) rfl
  ·go_simp
   refine (vmE B t F T _ (HT.out.keep hM.kp)).mono ?_
   rintro e9 wb ⟨rfl, hwb⟩
   rw [hwb]
   exact hK z _ _ (hO rfl) (fun _ _ => rfl) rfl
  ·go_simp
   refine (vfL B t F T _ (HT.out.keep hM.kp) HLO.out).mono ?_
   rintro e9 wb ⟨a9, c9, rfl, hO9, hKc⟩
   exact hK { z with a3 := a9, m3 := c9 } _ _ (hM.at47 (Own.rdAt (by decide) PI.len hO9) hKc) (but1 hLi rfl) rfl
  ·go_simp
   refine (vhz T.c z.a3 A z.m3 m _ (hM.cf (d 47 rfl)) (HR.out.own.keep hM.kp) HLO.out).mono ?_
   rintro e9 wb ⟨rfl, hKc⟩
   exact hK z _ _ (hM.to 50 rfl hKc) (fun _ _ => rfl) rfl
 intro z L w9 hL hM
 (try simp only [Exit.then])
 go_wp2_with fail
 go_ret
 exact ⟨rfl, HkW.out.trans hM.kp⟩
end

end Go.Proofs.YtffckpkikdlbpaaGreatDoor
