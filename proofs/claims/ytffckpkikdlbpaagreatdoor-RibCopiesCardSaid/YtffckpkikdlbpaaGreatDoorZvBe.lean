/- Lemmas and contracts for the theorem of this claim: R12F. -/
import Derived.Test.YtffckpkikdlbpaaGreatDoorZvBd
set_option linter.all false
set_option maxHeartbeats 16000000
namespace Go.Proofs.YtffckpkikdlbpaaGreatDoor
section
open Go.RowKit
theorem vja {c : Cf} {now : Int} {L : List Rt} (h : firstR L = none) : ∀ k, expG c now k L = (L, 0)
 | 0 => rfl
 | k + 1 => by unfold expG; rw [h]
theorem vjb {c : Cf} {now : Int} {L : List Rt} {r : Rt} (h : firstR L = some r) (hd : now < r.d) : ∀ k, expG c now k L = (L, 0)
 | 0 => rfl
 | k + 1 => by unfold expG; rw [h]; simp only; rw [if_pos hd]
theorem vjc {c : Cf} {now : Int} {L : List Rt} {r : Rt} (h : firstR L = some r) (hd : ¬ now < r.d) (k : Nat) : expG c now (k + 1) L = ((expG c now k (setR (expR c r now) L)).1, (expG c now k (setR (expR c r now) L)).2 + 1) := by
 rw [expG]
 rw [h]
 simp only
 rw [if_neg hd]
structure ExpI (T : Tb) (now : Int) (k : Nat) (M : List Rt) : Prop where
 ok : TbOk ⟨T.c, M, now, T.rf⟩
 ex : expG T.c now 1000 T.l = ((expG T.c now (1000 - k) M).1, (expG T.c now (1000 - k) M).2 + (k : Int))
 du : k + dueS now M ≤ 512
theorem ExpI.start {T : Tb} (h : TbOk T) (now : Int) (ht : 0 ≤ now ∧ now ≤ 4611686018426387904) : ExpI T now 0 T.l := by
 refine ⟨⟨h.c, h.u, h.r, h.n, ht, h.f⟩, ?_, ?_⟩
 ·show expG T.c now 1000 T.l = ((expG T.c now 1000 T.l).1, (expG T.c now 1000 T.l).2 + ((0 : Nat) : Int))
  rw [Int.natCast_zero, Int.add_zero]
 ·have := vft now T.l
  have := vcr h
  omega
theorem ExpI.stop {T : Tb} {now : Int} {k : Nat} {M : List Rt} (h : ExpI T now k M) (e : expG T.c now (1000 - k) M = (M, 0)) (ht : timely T now = true) : expT T now = (⟨T.c, M, now, T.rf⟩, (k : Int), 0) := by
 unfold expT
 rw [if_pos ht, h.ex, e]
 simp
theorem ExpI.next {T : Tb} {now : Int} {k : Nat} {M : List Rt} {r : Rt} (h : ExpI T now k M) (hf : firstR M = some r) (hd : ¬ now < r.d) (ht : 0 ≤ now ∧ now ≤ 4611686018426387904) : ExpI T now (k + 1) (setR (expR T.c r now) M) := by
 have hk := h.du
 obtain ⟨h1, h2, _⟩ := (vaz h.ok.u).2 r hf
 have hr := (h.ok.r r h1).1
 refine ⟨h.ok.put h1 (exp_p _ _ _) (vbt h.ok.c hr (by rw [okNow, vaa]; exact ht)) ht h.ok.f, ?_, ?_⟩
 ·have e : 1000 - k = (1000 - (k + 1)) + 1 := by omega
  rw [h.ex, e, vjc hf hd]
  simp only [Prod.mk.injEq, true_and]
  omega
 ·have := veh h.ok.u h.ok.c h1 hr h2 (now := now) (by omega)
  simp only at this
  omega
def ExR (w : World) (E : Option Addr) (W : World) (b : Nat) (T : Tb) (A : Option Addr) (m : Nat) (now : Int) (k : Nat) (V : World) : Prop := ∃ M E2 n2, ExpI T now k M ∧ Blk V b 39 (tbR ⟨T.c, M, now, T.rf⟩ A E2 m n2) ∧ (∀ V', RowSt w E T.l b V V' → Rd V' 9 Rt.enc E2 M) ∧ Only [b] W V
set_option maxRecDepth 100000 in
theorem vcs (T : Tb) (A E : Option Addr) (m n : Nat) (now : Int) (w : World) (hR : Rd w 9 Rt.enc E T.l) (ok : TbOk T) :
  Calls Tryz.prog 46 #[tbV T A E m n, .int .i64 now] w fun e w' => ∃ E2 n2, e = .returned (.tuple #[tbV (expT T now).1 A E2 m n2, .int .i64 (expT T now).2.1, .int .i64 (expT T now).2.2]) ∧ Stays w w' E T.l E2 (expT T now).1.l ∧ Kp w w' := by
 obtain ⟨b, hb⟩ : ∃ b, w.heap.size = b := ⟨_, rfl⟩
 obtain ⟨W, hW, kW, B0, B1⟩ : ∃ W, (w.alloc (.cells (tbR T A E m n) 39)).alloc (.cells zero12 39) = W ∧ Kp w W ∧ Blk W b 39 (tbR T A E m n) ∧ Blk W (b + 1) 39 (tbR zeroTb none none 0 0) := ⟨_, rfl, ((Kp.refl _).alloc _).alloc _, by rw [← hb]; exact (Blk.new _ _ _).alloc _, by rw [← hb]; exact Blk.new1 _ _ _ _⟩
 have HB0 := Lib.hid B0
 have HB1 := Lib.hid B1
 have HkW := Lib.hid kW
 have Hb := Lib.hid hb
 have HOK := Lib.hid ok
 have HR0 := Lib.hid hR
 have u0 := Blk.f B0 rfl
 have y0 := Blk.f B1 rfl
 have z0 := Blk.frozen B1
 unfold tbR zero12 at hW
 clear hR B0 B1 kW ok
 cases ht : timely T now with
 | false =>
  have HE : Hid ((expT T now).1 = T ∧ (expT T now).2.1 = 0 ∧ (expT T now).2.2 = 170) := Lib.hid (by
   unfold expT
   rw [ht]
   exact ⟨rfl, rfl, rfl⟩)
  have HTM := Lib.hid ht
  clear ht
  go_enter Tryz.func46, Tryz.ntmps46
  go_wp2_with fail
  refine (vaJ T A E m n now W).mono ?_
  rintro e w1 ⟨rfl, K1⟩
  rw [HTM.out]
  simp only [Bool.false_eq_true, if_false]
  have u0 := Blk.f (HB0.out.keep K1) rfl
  have y0 := Blk.f (HB1.out.keep K1) rfl
  have z0 := Blk.frozen (HB1.out.keep K1)
  go_wp2_with fail
  have hgw : w.heap.size ≤ b + 1 := by have := Hb.out; omega
  refine bodyPost_ret (vbk (T := T) (A := A) (E := E) (m := m) (n := n) rfl rfl rfl rfl (Blk.set12 (HB1.out.keep K1))) rfl ?_
  obtain ⟨h1, h2, h3⟩ := HE.out
  first
  | exact ⟨E, n, by rw [h1, h2, h3] <;> rfl, by rw [h1]; exact Stays.same, Kp.set12 (HkW.out.trans K1) hgw⟩
  | exact ⟨E, ⟨n, by rw [h1, h2, h3] <;> rfl⟩, by rw [h1]; exact Stays.same, Kp.set12 (HkW.out.trans K1) hgw⟩
 | true =>
  have HTI := Lib.hid (vam.1 ht)
  have HTM := Lib.hid ht
  have HB : Hid (0 ≤ now ∧ now ≤ 4611686018426387904 ∧ 0 ≤ T.c.t3 ∧ T.c.t3 ≤ 1000000 ∧ 0 ≤ T.c.t4 ∧ T.c.t4 ≤ 1000000) := Lib.hid (by
   have h1 := vaN HOK.out.c 3 (by omega)
   have h3 := vaN HOK.out.c 4 (by omega)
   simp only [leastS, Cf.t] at h1 h3
   have h2 := HTI.out
   omega)
  have HI0 := Lib.hid (ExpI.start HOK.out now (by have := HTI.out; omega))
  have hol : (T.c.own.length : Int) ≤ 16 := (vaw HOK.out.c).2.2.1
  clear ht
  go_enter Tryz.func46, Tryz.ntmps46
  go_wp2_with fail
  refine (vaJ T A E m n now W).mono ?_
  rintro e w1 ⟨rfl, K1⟩
  rw [HTM.out]
  simp only [if_true]
  clear hW
  have B0k := HB0.out.keep K1
  have u0 := Blk.f B0k rfl
  have z0 := Blk.frozen B0k
  obtain ⟨w2, hw2, L2⟩ : ∃ w2, w1.setCell ⟨b, 10, none⟩ (.int .i64 now) = w2 ∧ ExR w E W b T A m now 0 w2 := by
   have k : Only [b] W (w1.setCell ⟨b, 10, none⟩ (.int .i64 now)) := (Only.of_kp K1).setCell (.inl (by simp)) _
   have B : Blk (w1.setCell ⟨b, 10, none⟩ (.int .i64 now)) b 39 (tbR ⟨T.c, T.l, now, T.rf⟩ A E m n) := by have := B0k.set_ 10 (.int .i64 now); exact this
   refine ⟨_, rfl, T.l, E, n, HI0.out, B, ?_, k⟩
   exact fun V' hV' => hV'.1
  have HLf := Lib.hid L2
  clear B0k K1 L2
  go_upto_region 5 with (fail)
  clear hw2 u0 z0
  go_wp2_with fail
  go_loopw [8] (fun s wr => ∃ k : Nat, k ≤ 513 ∧ s = .int .i64 k ∧ Hid (ExR w E W b T A m now k wr)) (fun s _ => 1000 - (intOf s).toNat)
  case atStart => exact ⟨0, by omega, rfl, HLf⟩
  case round =>
   obtain ⟨k, hk, rfl, HL⟩ := hrel
   obtain ⟨M, E2, n2, hI, hBt, hRS, hO⟩ := HL.out
   have HI := Lib.hid hI
   have kr : Kp w wr := hO.kp HkW.out (fun b' hb' => by have := Hb.out; simp at hb'; omega)
   have HRM0 := Lib.hid (hRS _ (RowSt.of (HR0.out.keep kr) (Only.refl [] _) (by simp)))
   have HRS := Lib.hid hRS
   have HKR := Lib.hid kr
   have HO := Lib.hid hO
   have HBt0 := Lib.hid hBt
   have HBz0 := Lib.hid (HB1.out.only hO (by simp))
   have HLM : Hid (M.length ≤ 900000) := Lib.hid (by have := vcr hI.ok; simp only at this; omega)
   have hk2 : (k : Int) ≤ 512 := by have := hI.du; omega
   have hg0 : (0 : Int) ≤ (k : Int) := by omega
   have dle : decide ((k : Int) ≤ 3 * (T.c.own.length : Int) + 768) = true := decide_eq_true (by omega)
   have u0 := Blk.f hBt rfl
   clear hI hRS hO kr hBt HL
   go_wp2_with fail
   refine (vcO ⟨T.c, M, now, T.rf⟩ A E2 m n2 wr HRM0.out HLM.out).mono ?_
   rintro e w5 ⟨rfl, K5⟩
   clear u0
   obtain ⟨gr, hgr⟩ : ∃ gr, w5.heap.size = gr := ⟨_, rfl⟩
   simp only
   cases hfr : firstR M with
   | none =>
    have HX := Lib.hid (HI.out.stop (vja hfr _) HTM.out)
    clear hfr
    simp only [Option.getD_none, Option.isSome_none]
    obtain ⟨w3, hw3, k3, Br⟩ : ∃ w3, w5.alloc (.cells (roC zeroR) 48) = w3 ∧ Kp wr w3 ∧ Blk w3 gr 48 (roC zeroR) := ⟨_, rfl, K5.alloc _, by rw [← hgr]; exact Blk.new _ _ _⟩
    unfold roC at hw3
    have HK3 := Lib.hid k3
    have HB9 := Lib.hid (HBt0.out.keep k3)
    have HR9 := Lib.hid (HBz0.out.keep k3)
    have B9 := HB9.out
    have R9 := HR9.out
    clear Br k3 K5
    have u0 := Blk.f B9 rfl
    have y0 := Blk.f R9 rfl
    have z0 := Blk.frozen R9
    clear B9 R9
    go_wp2_with fail
    have hgw : w.heap.size ≤ b + 1 := by have := Hb.out; omega
    refine bodyPost_ret (vbk (T := ⟨T.c, M, now, T.rf⟩) (A := A) (E := E2) (m := m) (n := n2) rfl rfl rfl rfl (Blk.set12 HR9.out)) rfl ?_
    rw [HX.out]
    have KK := HKR.out.trans HK3.out
    first
    | exact ⟨E2, n2, rfl, RowSt.stays HRS.out (Only.set12 (bs := [b, b + 1]) (Only.of_kp HK3.out) (by simp)) (by simp), Kp.set12 KK hgw⟩
    | exact ⟨E2, ⟨n2, rfl⟩, RowSt.stays HRS.out (Only.set12 (bs := [b, b + 1]) (Only.of_kp HK3.out) (by simp)) (by simp), Kp.set12 KK hgw⟩
    | exact ⟨E2, n2, rfl, RowSt.stays HRS.out (Only.set12 (bs := [b, b + 1]) (Only.of_kp HK3.out) (by simp)) (by simp), Kp.set12 KK hgw⟩
   | some r =>
    simp only [Option.getD_some, Option.isSome_some]
    obtain ⟨w3, hw3, k3, Br⟩ : ∃ w3, w5.alloc (.cells (roC r) 48) = w3 ∧ Kp wr w3 ∧ Blk w3 gr 48 (roC r) := ⟨_, rfl, K5.alloc _, by rw [← hgr]; exact Blk.new _ _ _⟩
    unfold roC at hw3
    have x7 := Blk.f Br rfl
    by_cases hd : now < r.d
    ·have dd : decide (now < r.d) = true := decide_eq_true hd
     have HX := Lib.hid (HI.out.stop (vjb hfr hd _) HTM.out)
     clear hfr hd
     have HK3 := Lib.hid k3
     have HB9 := Lib.hid (HBt0.out.keep k3)
     have HR9 := Lib.hid (HBz0.out.keep k3)
     have B9 := HB9.out
     have R9 := HR9.out
     clear Br k3 K5
     have u0 := Blk.f B9 rfl
     have y0 := Blk.f R9 rfl
     have z0 := Blk.frozen R9
     clear B9 R9
     go_wp2_with fail
     have hgw : w.heap.size ≤ b + 1 := by have := Hb.out; omega
     refine bodyPost_ret (vbk (T := ⟨T.c, M, now, T.rf⟩) (A := A) (E := E2) (m := m) (n := n2) rfl rfl rfl rfl (Blk.set12 HR9.out)) rfl ?_
     rw [HX.out]
     have KK := HKR.out.trans HK3.out
     first
     | exact ⟨E2, n2, rfl, RowSt.stays HRS.out (Only.set12 (bs := [b, b + 1]) (Only.of_kp HK3.out) (by simp)) (by simp), Kp.set12 KK hgw⟩
     | exact ⟨E2, ⟨n2, rfl⟩, RowSt.stays HRS.out (Only.set12 (bs := [b, b + 1]) (Only.of_kp HK3.out) (by simp)) (by simp), Kp.set12 KK hgw⟩
     | exact ⟨E2, n2, rfl, RowSt.stays HRS.out (Only.set12 (bs := [b, b + 1]) (Only.of_kp HK3.out) (by simp)) (by simp), Kp.set12 KK hgw⟩
    ·have dd : decide (now < r.d) = false := decide_eq_false hd
     have HNI := Lib.hid (HI.out.next hfr hd (by have := HTI.out; omega))
     have HSR := Lib.hid (show r.s = 0 ∨ r.s = 1 ∨ r.s = 2 ∨ r.s = 3 ∨ r.s = 4 from vaI ((vat r).1 (HI.out.ok.r r ((vaz HI.out.ok.u).2 r hfr).1).1).2)
     obtain ⟨R, hRr⟩ : ∃ R, expR T.c r now = R := ⟨_, rfl⟩
     have HRr := Lib.hid hRr
     rw [hRr] at HNI
     have HBr := Lib.hid Br
     have HBt := Lib.hid (HBt0.out.keep k3)
     have HRM := Lib.hid (HRM0.out.keep k3)
     have HO3 := Lib.hid (show Only [b] W w3 from HO.out.trans (Only.of_kp k3))
     have HOs := HO
     have HO := HO3
     clear hfr hd hRr Br k3 K5
     go_upto_region 11 with (fail)
     clear x7 hw3 hgr
     refine' vag (fun z L V9 => (L 7 = false → Kp w3 V9) ∧ (L 6 = true → FoR b (setR R M) z V9) ∧ (L 7 = true → Only [b] w3 V9 ∧ Blk V9 b 39 (tbR ⟨T.c, setR R M, now, T.rf⟩ A z.1 m z.2))) [45, 46, 47, 48, 49, 50, 51, 10007] (fun z => [.agg #[.int .i64 T.c.t0, .int .i64 T.c.t1, .int .i64 T.c.t2, .int .i64 T.c.t3, .int .i64 T.c.t4, .int .i64 T.c.t5, .int .i64 T.c.t6, .int .i64 T.c.cap, .slice A T.c.own.length m, .slice E2 (M).length n2, .int .i64 now, .int .i64 T.rf], .pointer (some ⟨b, 0, none⟩), .agg #[.int .i64 T.c.t0, .int .i64 T.c.t1, .int .i64 T.c.t2, .int .i64 T.c.t3, .int .i64 T.c.t4, .int .i64 T.c.t5, .int .i64 T.c.t6, .int .i64 T.c.cap, .slice A T.c.own.length m], .agg #[.int .u32 (r.p.a : Int), .int .i64 r.p.l, .int .i64 r.s, .int .i64 r.m, .int .i64 r.l, .int .i64 r.f, .int .u32 (r.x : Int), .int .i64 r.d, .bool r.c], .int .i64 now, .agg #[.int .u32 (R.p.a : Int), .int .i64 R.p.l, .int .i64 R.s, .int .i64 R.m, .int .i64 R.l, .int .i64 R.f, .int .u32 (R.x : Int), .int .i64 R.d, .bool R.c], .agg #[.int .i64 T.c.t0, .int .i64 T.c.t1, .int .i64 T.c.t2, .int .i64 T.c.t3, .int .i64 T.c.t4, .int .i64 T.c.t5, .int .i64 T.c.t6, .int .i64 T.c.cap, .slice A T.c.own.length m, .slice z.1 (setR R M).length z.2, .int .i64 now, .int .i64 T.rf], undef]) (List.replicate 8 true) [6, 7] (by kernel_rfl) (by kernel_rfl) (fun _ => rfl) (fun _ => rfl) (fun _ => rfl) (none, 0) ⟨fun _ => (Kp.refl w3).drew, fun h => (by cases h), fun h => (by cases h)⟩ (fun z L L' _ e h => by simpa only [e 6 (by simp), e 7 (by simp)] using h) ?_ ?_ ?_
     rotate_left
     ·intro z; simp only [List.zip_cons_cons, List.zip_nil_right, wrC, wrN, List.set_cons_zero, List.set_cons_succ, List.set_nil]; rfl
     ·repeat' (first | refine And.intro ?_ ?_ | exact trivial)
      all_goals intro z L a w9 hLi d hcl hM hO K hK
      all_goals try have nS : L 7 = false := vac _ hcl (i := 7) rfl (by rfl) hLi
      all_goals try have K := hM.1 nS
      all_goals try have u0 := Blk.f (HBt.out.keep K) rfl
      all_goals try have q0 := Blk.f (HBr.out.keep K) rfl
      all_goals try (go_simp; exact hK z _ _ (hO rfl) (fun _ _ => rfl) rfl)
      ·have nC : L 6 = false := vac _ hcl (i := 6) rfl (by rfl) hLi
       go_simp
       refine (vhg T.c A T.c.own.length m r now w9 HSR.out (by have := HB.out; omega) (by have := HB.out; omega) (by have := HB.out; omega) (by have := HB.out; omega) (by have := HB.out; omega) (by have := HB.out; omega)).mono ?_
       rintro e9 wb ⟨rfl, hKc⟩
       rw [HRr.out]
       exact hK z _ _ ⟨fun _ => K.trans hKc, fun h => absurd h (by simp [nC]), fun h => absurd h (by simp [nS])⟩ (fun _ _ => rfl) rfl
      ·go_simp
       refine (vaV ⟨T.c, M, now, T.rf⟩ A E2 m n2 R w9 (HRM.out.keep K) HLM.out).mono ?_
       rintro e9 wb ⟨E3, n3, rfl, hrd0, hna, hKc⟩
       exact hK (E3, n3) _ _ ⟨fun _ => K.trans hKc, fun _ => ⟨hrd0, fun a ha => by have h1 := hna a ha; have h2 := (HBt.out.keep K).lt; have h3 := HB1.out.lt; have h4 := HO.out.size; have h5 := K.size; omega⟩, fun h => absurd h (by simp [nS])⟩ (but1 hLi rfl) rfl
      ·have hp := hM.1 hLi
       have hR9 := hM.2.1 (d 6 rfl)
       have hBp := HBt.out.keep hp
       have u0 := Blk.f hBp rfl
       have z0 := Blk.frozen hBp
       go_simp
       exact hK z _ _ ⟨fun h => absurd h (by simp), fun _ => ⟨Rd.set12 hR9.1 (fun a ha => (hR9.2 a ha).1), hR9.2⟩, fun _ => ⟨Only.set12 (Only.of_kp hp) (by simp), Blk.set12 hBp⟩⟩ (fun _ _ => rfl) rfl
     intro z L w9 hL hM
     (try simp only [Exit.then])
     obtain ⟨hO9, hB9⟩ := hM.2.2 (hL 7 (by decide))
     have hR9 := hM.2.1 (hL 6 (by decide))
     have HS := Lib.hid (show ExR w E W b T A m now (k + 1) w9 from ⟨setR R M, z.1, z.2, HNI.out, hB9, fun V' hV' => hV'.rd hR9.1 (fun a ha => by have := hR9.2 a ha; have := Hb.out; omega), HO.out.trans hO9⟩)
     clear hM hL hO9 hB9 hR9
     go_wp2_with fail
     go_roundw
     case rel => exact ⟨k + 1, by omega, by go_num, HS⟩
     case measure => simp [intOf]; omega
end

end Go.Proofs.YtffckpkikdlbpaaGreatDoor
