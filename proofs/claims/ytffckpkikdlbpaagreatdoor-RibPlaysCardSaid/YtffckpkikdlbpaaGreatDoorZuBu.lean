/- Lemmas and contracts for the theorem of this claim: PlyT. -/
import Derived.Test.YtffckpkikdlbpaaGreatDoorZuBr
import Derived.Test.YtffckpkikdlbpaaGreatDoorZuBt
import Derived.Deep.CutBlock
set_option linter.all false
set_option maxHeartbeats 16000000
namespace Go.Proofs.YtffckpkikdlbpaaGreatDoor
section
open Go.RowKit Go.Maps
def PlyR (w : World) (g : Nat) (c : Cf) (A : Option Addr) (m : Nat) (T : Tb) (t : Nat) (W : World) : Prop := ∃ B E n, TQ w W B t T (PlI g [g] (fun _ => True) T A E m n) ∧ T.c = c
theorem PlyR.keep {w W W' : World} {g t m : Nat} {c : Cf} {A : Option Addr} {T : Tb} (h : PlyR w g c A m T t W) (k : Kp W W') : PlyR w g c A m T t W' := by
 obtain ⟨B, E, n, hQ, hc⟩ := h
 exact ⟨B, E, n, hQ.keep k, hc⟩
structure PyP (g : Nat) (T : Tb) (A E : Option Addr) (m n : Nat) (w5 w6 : World) (y6 : Bool) (gs : List Nat) (q : Option (Nat × Array Value)) (V : World) : Prop where
 cl : ∀ V', Only gs V V' → PlI g [g] (fun _ => True) T A E m n V' ∧ (y6 = true → New w5 w6 V')
 bx : ∀ p, q = some p → Blk V p.1 39 p.2
def PyS {w0 : World} (S : Nat → Tb → (World → Prop) → World → Prop) (g t : Nat) (T T2 : Tb) (A E : Option Addr) (m n : Nat) (z : Nat × Option Addr × Nat × Nat) (y6 y11 y13 : Bool) (V : World) : Prop :=
 ∃ w5 w6, (y6 = true → g < w5.heap.size ∧ Stays w5 w6 E T.l z.2.1 T2.l) ∧ (y11 = true → w0.heap.size ≤ z.2.2.2 ∧ g < z.2.2.2) ∧ S (bif y6 then z.1 else t) (bif y6 then T2 else T) (PyP g T A E m n w5 w6 y6 (bif y11 then [z.2.2.2] else []) (bif y11 then some (z.2.2.2, bif y13 then tbR T2 A z.2.1 m z.2.2.1 else tbR zeroTb none none 0 0) else none)) V
section
variable {w1 V V' : World} {g t m n : Nat} {T T2 : Tb} {A E : Option Addr} {z : Nat × Option Addr × Nat × Nat} {y6 y11 y13 : Bool}
theorem PyS.start (h : ∃ B, TQ w1 V B t T (PlI g [g] (fun _ => True) T A E m n)) : PyS (w0 := w1) (fun t T P W => ∃ B, TQ w1 W B t T P) g t T T2 A E m n z false false false V := by
 refine ⟨V, V, fun h => (by cases h), fun h => (by cases h), (TQ.moves w1).imp ((TQ.moves w1).wide (bs := []) h (Kp.refl _) (by simp) (fun _ => True) (fun _ _ => trivial)) (fun V hV => ⟨fun V' k => ⟨hV.1 V' k, fun h => (by cases h)⟩, fun p e => (by cases e)⟩)⟩
theorem PyS.kp (h : PyS (w0 := w1) (fun t T P W => ∃ B, TQ w1 W B t T P) g t T T2 A E m n z y6 y11 y13 V) : Kp w1 V := by
 obtain ⟨_, _, _, _, _, hS⟩ := h
 exact hS.kp
theorem PyS.tb (h : PyS (w0 := w1) (fun t T P W => ∃ B, TQ w1 W B t T P) g t T T2 A E m n z y6 y11 y13 V) : Blk V g 39 (tbR T A E m n) := by
 obtain ⟨_, _, _, _, _, hS⟩ := h
 exact (hS.p.cl _ (Only.refl _ _)).1.tb
theorem PyS.box (h : PyS (w0 := w1) (fun t T P W => ∃ B, TQ w1 W B t T P) g t T T2 A E m n z y6 true y13 V) : Blk V z.2.2.2 39 (bif y13 then tbR T2 A z.2.1 m z.2.2.1 else tbR zeroTb none none 0 0) := by
 obtain ⟨_, _, _, _, _, hS⟩ := h
 exact hS.p.bx _ rfl
theorem PyS.ne (h : PyS (w0 := w1) (fun t T P W => ∃ B, TQ w1 W B t T P) g t T T2 A E m n z y6 true y13 V) : z.2.2.2 ≠ g := by
 obtain ⟨_, _, _, h2, _⟩ := h
 have := (h2 rfl).2
 omega
theorem PyS.call {x : Ac} (h : PyS (w0 := w1) (fun t T P W => ∃ B, TQ w1 W B t T P) g t T T2 A E m n z false y11 false V) (hx : x.fits) (hT : actT T x = T2) :
  Calls Tryz.prog 14 #[.pointer (some ⟨t, 0, none⟩), tbV T A E m n, .agg (acC x)] V fun e V' => ∃ t9 E9 n9, e = .returned (.tuple #[.pointer (some ⟨t9, 0, none⟩), tbV T2 A E9 m n9, .bool true]) ∧ PyS (w0 := w1) (fun t T P W => ∃ B, TQ w1 W B t T P) g t T T2 A E m n (t9, E9, n9, z.2.2.2) true y11 false V' := by
 subst hT
 have hg := h.tb.lt
 obtain ⟨w5, w6, _, h2, hS⟩ := h
 simp only [cond_false] at hS
 have hP := (TQ.moves w1).p hS
 refine (vfM (TQ.moves w1) t T A E m n x _ V hS (fun V hV => (hV.cl V (Only.refl _ _)).1.cl V (Only.refl _ _)) hx).mono ?_
 rintro e V' ⟨t9, E9, n9, v5, v6, rfl, hsz, hst, hS9⟩
 refine ⟨t9, E9, n9, rfl, v5, v6, fun _ => ⟨by omega, hst⟩, h2, (TQ.moves w1).imp hS9 (fun U hU => ⟨fun U' k => ⟨(hU.1.cl U' k).1, fun _ => hU.2.only k (fun i hi => ?_)⟩, hU.1.bx⟩)⟩
 cases y11 with
 | false => cases hi
 | true =>
  have e : i = z.2.2.2 := by simpa using hi
  subst e
  have := (hP.bx _ rfl).lt
  simp only at this
  omega
theorem PyS.alloc (h : PyS (w0 := w1) (fun t T P W => ∃ B, TQ w1 W B t T P) g t T T2 A E m n z y6 false false V) : PyS (w0 := w1) (fun t T P W => ∃ B, TQ w1 W B t T P) g t T T2 A E m n (z.1, z.2.1, z.2.2.1, V.heap.size) y6 true false (V.alloc (.cells zero12 39)) := by
 have hg := h.tb.lt
 have hk := h.kp.size
 obtain ⟨w5, w6, h1, _, hS⟩ := h
 refine ⟨w5, w6, h1, fun _ => ⟨hk, hg⟩, (TQ.moves w1).imp ((TQ.moves w1).wide (bs := [V.heap.size]) hS ((Kp.refl V).alloc _) (by simp) (fun U => Blk U V.heap.size 39 (tbR zeroTb none none 0 0)) (fun U hU => (hU _ (Nat.le_refl _) (by simp)).trans (Blk.new _ _ _))) (fun U hU => ⟨fun U' k => (hU.1 U' k).cl U' (Only.refl _ _), fun p e => ?_⟩)⟩
 simp only [cond_true, Option.some.injEq] at e
 subst e
 exact hU.2
theorem PyS.store (h : PyS (w0 := w1) (fun t T P W => ∃ B, TQ w1 W B t T P) g t T T2 A E m n z true true false V) (k : Only [z.2.2.2] V V') (hB : Blk V' z.2.2.2 39 (tbR T2 A z.2.1 m z.2.2.1)) : PyS (w0 := w1) (fun t T P W => ∃ B, TQ w1 W B t T P) g t T T2 A E m n z true true true V' := by
 obtain ⟨w5, w6, h1, h2, hS⟩ := h
 refine ⟨w5, w6, h1, h2, (TQ.moves w1).put (g := z.2.2.2) (Y := 39) (cs := tbR T2 A z.2.1 m z.2.2.1) hS (by decide) (h2 rfl).1 (fun U hU => ⟨_, hU.bx _ rfl⟩) (fun U U' hU k2 hB2 => ⟨fun U'' k3 => hU.cl U'' (k2.trans k3), fun p e => ?_⟩) k hB⟩
 simp only [cond_true, Option.some.injEq] at e
 subst e
 exact hB2
theorem PyS.fin (h : PyS (w0 := w1) (fun t T P W => ∃ B, TQ w1 W B t T P) g t T T2 A E m n z true true true V) (hw : w1.heap.size ≤ g) (hc : T2.c = T.c) (k : Only [g] V V') (hB : Blk V' g 39 (tbR T2 A z.2.1 m z.2.2.1)) : ∃ B, TQ w1 V' B z.1 T2 (PlI g [g] (fun _ => True) T2 A z.2.1 m z.2.2.1) := by
 obtain ⟨w5, w6, h1, h2, hS⟩ := h
 obtain ⟨h3, h4⟩ := h1 rfl
 exact PlI.next (TQ.moves w1) ((TQ.moves w1).imp hS (fun U hU => ⟨(hU.cl U (Only.refl _ _)).1, (hU.cl U (Only.refl _ _)).2 rfl⟩)) (by simp) (by simpa using h3) h4 hc hw (fun _ _ h _ => h) k hB
end
set_option maxRecDepth 100000 in
theorem vff (c : Cf) (A A2 : Option Addr) (m m2 : Nat) (l : List Ac) (w : World) (hS : SlPI w A m c.own) (hw : ∀ k (hk : k < c.own.length), c.own[k].a < 4294967296) (hR : Rd w 9 Ac.enc A2 l) (hx : ∀ x ∈ l, x.fits) (hC : CapAt w) (hF : FacAt w) :
    Calls Tryz.prog 5 #[cfV c A c.own.length m, .slice A2 l.length m2] w fun e w' => e = .returned (.bool true) ∧ Kp w w' := by
  have HC := Lib.hid hC
  have HF := Lib.hid hF
  have HS := Lib.hid hS
  have HW := Lib.hid hw
  have HR := Lib.hid hR
  have HX := Lib.hid hx
  clear hC hF hS hw hR hx
  obtain ⟨b, hb⟩ : ∃ b, w.heap.size = b := ⟨_, rfl⟩
  obtain ⟨W, hW, kW, B0⟩ := Blk.al1 hb (cfC c A c.own.length m) 24
  have HB0 := Lib.hid B0
  have HKW := Lib.hid kW
  have r0 := Blk.f B0 rfl
  unfold cfC at hW
  clear B0 kW
  by_cases hf : (c.own.length : Int) ≤ 20
  · have df : decide ((c.own.length : Int) ≤ 20) = true := decide_eq_true hf
    have HL20 := Lib.hid (show c.own.length ≤ 100000 by omega)
    clear hf
    by_cases h6 : l.length ≤ 40
    · have d6 : decide (40 < (l.length : Int)) = false := decide_eq_false (by omega)
      have H25 := Lib.hid (show l.length ≤ 1000 by omega)
      clear h6
      cases ho : okCf c with
      | false =>
        have HO := Lib.hid ho
        clear ho
        go_enter Tryz.func5, Tryz.ntmps5
        go_wp2_with fail
        refine (vbB c A _ m _).mono ?_
        rintro e w1 ⟨rfl, K1⟩
        rw [df]
        obtain ⟨s0, s1, s2, s3, s4, s5, s6, s7, s8⟩ := vcP (HB0.out.keep K1)
        go_wp2_with fail
        clear hW s0 s1 s2 s3 s4 s5 s6 s7 s8
        refine (vfb c A none m 0 0 _ (HS.out.keep (HKW.out.trans K1)) HW.out HL20.out (HC.out.keep (HKW.out.trans K1)) HO.out).mono ?_
        rintro e w2 ⟨rfl, K2⟩
        have HK2 := Lib.hid ((HKW.out.trans K1).trans K2)
        clear K1 K2
        go_wp2_with fail
        refine (vaP _ (HC.out.keep (HK2.out.alloc _)) (HF.out.keep (HK2.out.alloc _))).mono ?_
        rintro e w5 ⟨rfl, K5⟩
        go_wp2_with fail
        go_ret
        exact ⟨rfl, (HK2.out.alloc _).trans K5⟩
      | true =>
        have HO := Lib.hid ho
        clear ho
        go_enter Tryz.func5, Tryz.ntmps5
        go_wp2_with fail
        refine (vbB c A _ m _).mono ?_
        rintro e w1 ⟨rfl, K1⟩
        rw [df]
        obtain ⟨s0, s1, s2, s3, s4, s5, s6, s7, s8⟩ := vcP (HB0.out.keep K1)
        go_wp2_with fail
        clear hW s0 s1 s2 s3 s4 s5 s6 s7 s8
        have k1 := HKW.out.trans K1
        refine (vdO c A none m 0 [] _ (HS.out.keep k1) HW.out HL20.out (HC.out.keep k1) (HF.out.keep k1) (Rd.nil _ _ _ _) (fun x hx => by cases hx) (by simp) HO.out).mono ?_
        rintro e w2 ⟨B, t, E, n, rfl, S2⟩
        have Hk1 := Lib.hid k1
        have HK1 := Lib.hid K1
        have S2 := Lib.hid S2
        clear k1 K1
        obtain ⟨T, hT⟩ : ∃ T, playT c [] = T := ⟨_, rfl⟩
        have HTc : Hid (T.c = c) := Lib.hid (by rw [← hT]; exact vlB c [])
        rw [hT] at S2 ⊢
        have HT0 : Hid (playT c (l.take 0) = T) := Lib.hid (by rw [List.take_zero]; exact hT)
        clear hT
        obtain ⟨W3, hW3, kW3, B10⟩ := Blk.al1 (w := w2) rfl (tbR T A E m n) 39
        have S3 : Hid (PlyR w1 w2.heap.size c A m T t W3) := Lib.hid (by
          obtain ⟨B2, hQ⟩ := (TQ.moves w1).wide (bs := [w2.heap.size]) ⟨B, S2.out⟩ kW3 (by simp) (fun V => Blk V w2.heap.size 39 (tbR T A E m n)) (fun V hV => (hV _ (Nat.le_refl _) B10.lt).trans B10)
          exact ⟨B2, E, n, hQ.imp (fun V hV => ⟨hV.2, trivial, hV.1⟩), HTc.out⟩)
        have HLW : Hid (w1.heap.size ≤ w2.heap.size) := Lib.hid S2.out.kp.size
        obtain ⟨B6, Q6⟩ : ∃ B, TQ w1 W3 B t T (fun V => RfM V T A E) := ⟨B, S2.out.keep kW3⟩
        obtain ⟨F6, hF6⟩ := Q6.tab
        have hR6 := Q6.p
        have HLEN : Hid (T.l.length ≤ 256) := Lib.hid (vbA Q6.gd.ok)
        have HLO : Hid (T.c.own.length ≤ 1000000) := Lib.hid (by rw [HTc.out]; have := HL20.out; omega)
        have HB10 := Lib.hid B10
        obtain ⟨u0, u1, u2, u3, u4, u5, u6, u7, u8, u9, u10, u11⟩ := vaI B10
        unfold tbR at hW3
        clear kW3 B10 S2 Q6
        go_wp2_with fail
        clear hW3
        obtain ⟨b6, hb6⟩ : ∃ b6, w2.heap.size = b6 := ⟨_, rfl⟩
        rw [hb6] at S3 HLW HB10 u0 u1 u2 u3 u4 u5 u6 u7 u8 u9 u10 u11 ⊢
        clear hb6
        refine (vgy B6 t F6 T A E m n W3 hF6 hR6 (by have := HLEN.out; omega) HLO.out).mono ?_
        rintro e w4 ⟨rfl, K4⟩
        have S4 := Lib.hid (S3.out.keep K4)
        clear u0 u1 u2 u3 u4 u5 u6 u7 u8 u9 u10 u11 K4 S3 HB10 hF6 hR6
        have HRl : Hid (Rd w1 9 Ac.enc A2 l) := Lib.hid (HR.out.keep Hk1.out)
        have hl2 := H25.out
        go_wp2_with fail
        go_loopw [5, 9] (fun s5 s9 wr => ∃ (k t2 : Nat), k ≤ l.length ∧ s5 = .pointer (some ⟨t2, 0, none⟩) ∧ s9 = .int .i64 k ∧ Hid (PlyR w1 b6 c A m (playT c (l.take k)) t2 wr)) (fun _ s _ => l.length - (intOf s).toNat)
        case atStart => exact ⟨0, t, Nat.zero_le _, rfl, rfl, by rw [HT0.out]; exact S4⟩
        case round =>
          obtain ⟨k, t2, hk, rfl, rfl, HP⟩ := hrel
          by_cases hlt : k < l.length
          · have hgi : (k : Int) < (l.length : Int) := by omega
            have hg0 : (0 : Int) ≤ (k : Int) := by omega
            obtain ⟨B2, E, n, hQ, hTc⟩ := HP.out
            obtain ⟨b2, off, hA2, x0, x1, x2, x3, x4, x5, x6, x7, x8⟩ := ac_at (HRl.out.keep hQ.kp) hlt
            have HXK := Lib.hid (HX.out _ (List.getElem_mem hlt))
            have HNX := Lib.hid (vfa (c := c) hlt)
            subst hA2
            obtain ⟨x, hx⟩ : ∃ x, l[k] = x := ⟨_, rfl⟩
            obtain ⟨T, hT⟩ : ∃ T, playT c (l.take k) = T := ⟨_, rfl⟩
            have HXE := Lib.hid hx
            rw [hx] at x0 x1 x2 x3 x4 x5 x6 x7 x8 HXK HNX
            rw [hT] at hQ hTc HNX
            have HQ := Lib.hid hQ
            have HTC := Lib.hid hTc
            obtain ⟨T2, hT2⟩ : ∃ T2, actT T x = T2 := ⟨_, rfl⟩
            have HT2 := Lib.hid hT2
            have HC2 : Hid (T2.c = T.c) := Lib.hid (by rw [← hT2]; exact act_c T x)
            rw [hT2] at HNX
            clear hx hT hQ hTc hT2 x0 x1 x2 x3 x4 x5 x6 x7 x8 HP
            go_upto_region 11 with (fail)
            refine' vag (fun z L V9 => PyS (w0 := w1) (fun t T P W => ∃ B, TQ w1 W B t T P) b6 t2 T T2 A E m n z (L 6) (L 11) (L 13) V9) [50, 51, 52, 53, 54, 55, 56, 49, 57, 58, 59, 11, 10, 10013, 12] (fun z => [.pointer (some ⟨t2, 0, none⟩), .agg #[.int .i64 T.c.t0, .int .i64 T.c.t1, .int .i64 T.c.t2, .int .i64 T.c.t3, .int .i64 T.c.t4, .int .i64 T.c.t5, .int .i64 T.c.t6, .int .i64 T.c.cap, .slice A T.c.own.length m, .slice E T.l.length n, .int .i64 T.now, .int .i64 T.rf], .slice (some ⟨b2, off, none⟩) l.length m2, .int .i64 k, .pointer (some ⟨b2, off + k * 9, none⟩), .agg #[.int .i64 x.wh, .int .i64 x.fc, .int .u32 (x.p.a : Int), .int .i64 x.p.l, .int .i64 x.h.f, .int .u32 (x.h.a : Int), .int .i64 x.h.m, .int .i64 x.more, .bool x.la], .tuple #[.pointer (some ⟨z.1, 0, none⟩), .agg #[.int .i64 T2.c.t0, .int .i64 T2.c.t1, .int .i64 T2.c.t2, .int .i64 T2.c.t3, .int .i64 T2.c.t4, .int .i64 T2.c.t5, .int .i64 T2.c.t6, .int .i64 T2.c.cap, .slice A T2.c.own.length m, .slice z.2.1 T2.l.length z.2.2.1, .int .i64 T2.now, .int .i64 T2.rf], .bool true], .tuple #[.pointer (some ⟨z.1, 0, none⟩), .agg #[.int .i64 T2.c.t0, .int .i64 T2.c.t1, .int .i64 T2.c.t2, .int .i64 T2.c.t3, .int .i64 T2.c.t4, .int .i64 T2.c.t5, .int .i64 T2.c.t6, .int .i64 T2.c.cap, .slice A T2.c.own.length m, .slice z.2.1 T2.l.length z.2.2.1, .int .i64 T2.now, .int .i64 T2.rf], .bool true], .pointer (some ⟨z.1, 0, none⟩), .agg #[.int .i64 T2.c.t0, .int .i64 T2.c.t1, .int .i64 T2.c.t2, .int .i64 T2.c.t3, .int .i64 T2.c.t4, .int .i64 T2.c.t5, .int .i64 T2.c.t6, .int .i64 T2.c.cap, .slice A T2.c.own.length m, .slice z.2.1 T2.l.length z.2.2.1, .int .i64 T2.now, .int .i64 T2.rf], .bool true, .pointer (some ⟨z.2.2.2, 0, none⟩), .pointer (some ⟨z.1, 0, none⟩), undef, .bool true]) (List.replicate 15 true) [6, 11, 13] (by kernel_rfl) (by kernel_rfl) (fun _ => rfl) (fun _ => rfl) (fun _ => rfl) (t2, none, 0, 0) (PyS.start ⟨B2, HQ.out.keep (Kp.refl _).drew⟩) (fun _ L L' _ e h => by simpa only [e 6 (by simp), e 11 (by simp), e 13 (by simp)] using h) ?_ ?_ ?_
            rotate_left
            · intro z; simp only [List.zip_cons_cons, List.zip_nil_right, wrC, wrN, List.set_cons_zero, List.set_cons_succ, List.set_nil]; rfl
            · repeat' (first | refine And.intro ?_ ?_ | exact trivial)
              all_goals intro z L a w9 hLi d hcl hM hO K hK
              all_goals try (go_simp; exact hK z _ _ (hO rfl) (fun _ _ => rfl) rfl)
              · have n6 : L 6 = false := vac _ hcl (i := 6) rfl (by rfl) hLi
                have u := Blk.f hM.tb rfl
                go_simp
                exact hK z _ _ (hO rfl) (fun _ _ => rfl) rfl
              · obtain ⟨bq, oq, eq, q0, q1, q2, q3, q4, q5, q6, q7, q8⟩ := ac_at (HRl.out.keep hM.kp) hlt
                injection eq with eq
                injection eq with eq1 eq2
                subst eq1 eq2
                rw [HXE.out] at q0 q1 q2 q3 q4 q5 q6 q7 q8
                go_simp
                exact hK z _ _ (hO rfl) (fun _ _ => rfl) rfl
              · go_simp
                have n7 : L 7 = false := vac _ hcl (i := 7) (j := 6) rfl rfl hLi
                have n8 : L 8 = false := vac _ hcl (i := 8) (j := 7) rfl rfl n7
                have n9 : L 9 = false := vac _ hcl (i := 9) (j := 7) rfl rfl n7
                have n12 : L 12 = false := vac _ hcl (i := 12) (j := 8) rfl rfl n8
                have n13 : L 13 = false := vac _ hcl (i := 13) (j := 9) rfl rfl n9
                rw [hLi, n13] at hM
                refine (hM.call HXK.out HT2.out).mono ?_
                rintro e9 wb ⟨t9, E9, n9v, rfl, hS6⟩
                exact hK (t9, E9, n9v, z.2.2.2) _ _ (by simpa [n13] using hS6) (fun j hj => by
                          match j, hj with
                          | 0, _ => rfl
                          | 1, _ => rfl
                          | 2, _ => rfl
                          | 3, _ => rfl
                          | 4, _ => rfl
                          | 5, _ => rfl
                          | 6, h => exact absurd h (by simp [hLi])
                          | 7, h => exact absurd h (by simp [n7])
                          | 8, h => exact absurd h (by simp [n8])
                          | 9, h => exact absurd h (by simp [n9])
                          | 10, _ => rfl
                          | 11, _ => rfl
                          | 12, h => exact absurd h (by simp [n12])
                          | 13, _ => rfl
                          | 14, _ => rfl
                          | (q + 15), _ => rfl) rfl
              · go_simp
                have n13 : L 13 = false := vac _ hcl (i := 13) (j := 11) rfl rfl hLi
                rw [hLi, n13] at hM
                have hA := hM.alloc
                unfold zero12 at hA
                exact hK (z.1, z.2.1, z.2.2.1, w9.heap.size) _ _ (by simpa [n13] using hA) (fun j hj => by
                          match j, hj with
                          | 0, _ => rfl
                          | 1, _ => rfl
                          | 2, _ => rfl
                          | 3, _ => rfl
                          | 4, _ => rfl
                          | 5, _ => rfl
                          | 6, _ => rfl
                          | 7, _ => rfl
                          | 8, _ => rfl
                          | 9, _ => rfl
                          | 10, _ => rfl
                          | 11, h => exact absurd h (by simp [hLi])
                          | 12, _ => rfl
                          | 13, _ => rfl
                          | 14, _ => rfl
                          | (q + 15), _ => rfl) rfl
              · have d9 : L 9 = true := d 9 rfl
                have d7 : L 7 = true := hcl 9 _ 7 rfl d9 rfl
                have d6 : L 6 = true := hcl 7 _ 6 rfl d7 rfl
                have d11 : L 11 = true := d 11 rfl
                rw [d6, d11, hLi] at hM
                have hBz := hM.box
                have y := Blk.f hBz rfl
                have f := Blk.frozen hBz
                go_simp
                exact hK z _ _ (by simpa [d6, d11] using hM.store (Only.set12 (Only.refl [z.2.2.2] w9) (by simp)) (Blk.set12 hBz)) (fun _ _ => rfl) rfl
            intro z L w9 hL hM
            (try simp only [Exit.then])
            rw [hL 6 (by decide), hL 11 (by decide), hL 13 (by decide)] at hM
            obtain ⟨z0, z1, z2, z3⟩ := z
            have HM := Lib.hid hM
            have HBX := Lib.hid hM.box
            have HNZ := Lib.hid (hM.ne)
            have HTB := Lib.hid hM.tb
            clear hM hL
            go_upto_region 12 with (fail)
            refine' vag (fun (_ : Unit) L V9 => Only [b6] w9 V9 ∧ (L 3 = false → Blk V9 b6 39 (tbR T A E m n)) ∧ (L 3 = true → Blk V9 b6 39 (tbR T2 A z1 m z2))) [60, 61, 5, 10003] (fun z => [.pointer (some ⟨z0, 0, none⟩), .agg #[.int .i64 T2.c.t0, .int .i64 T2.c.t1, .int .i64 T2.c.t2, .int .i64 T2.c.t3, .int .i64 T2.c.t4, .int .i64 T2.c.t5, .int .i64 T2.c.t6, .int .i64 T2.c.cap, .slice A T2.c.own.length m, .slice z1 T2.l.length z2, .int .i64 T2.now, .int .i64 T2.rf], .pointer (some ⟨z0, 0, none⟩), undef]) (List.replicate 4 true) [3] (by kernel_rfl) (by kernel_rfl) (fun _ => rfl) (fun _ => rfl) (fun _ => rfl) () ⟨(Only.refl _ _).drew, fun _ => HTB.out.drew, fun h => (by cases h)⟩ (fun _ L L' _ e h => by simpa only [e 3 (by simp)] using h) ?_ ?_ ?_
            rotate_left
            · intro z; simp only [List.zip_cons_cons, List.zip_nil_right, wrC, wrN, List.set_cons_zero, List.set_cons_succ, List.set_nil]; rfl
            · repeat' (first | refine And.intro ?_ ?_ | exact trivial)
              all_goals intro z L a w9 hLi d hcl hM hO K hK
              all_goals have u := Blk.f (HBX.out.only hM.1 (by have := HNZ.out; simpa using this)) rfl
              all_goals try (go_simp; exact hK z _ _ (hO rfl) (fun _ _ => rfl) rfl)
              · have y := Blk.f (hM.2.1 hLi) rfl
                have f := Blk.frozen (hM.2.1 hLi)
                go_simp
                exact hK z _ _ ⟨hM.1.set12 (by simp), fun h => absurd h (by simp), fun _ => Blk.set12 (hM.2.1 hLi)⟩ (fun _ _ => rfl) rfl
            intro z L w9 hL hM
            (try simp only [Exit.then])
            have H0 : Hid (PlyR w1 b6 c A m T2 z0 w9) := Lib.hid (by
              obtain ⟨B9, h9⟩ := HM.out.fin HLW.out HC2.out hM.1 (hM.2.2 (hL 3 (by decide)))
              exact ⟨B9, z1, z2, h9, HC2.out.trans HTC.out⟩)
            have HPE : Hid (∃ B, TQ w1 w9 B z0 T2 (PlI b6 [b6] (fun _ => True) T2 A z1 m z2)) := Lib.hid (HM.out.fin HLW.out HC2.out hM.1 (hM.2.2 (hL 3 (by decide))))
            clear hM hL HM HBX HNZ HTB
            obtain ⟨B7, Q7⟩ := HPE.out
            obtain ⟨F7, hF7⟩ := Q7.tab
            have HF7 := Lib.hid hF7
            have HQ7 := Lib.hid Q7
            have HLEN2 : Hid (T2.l.length ≤ 256) := Lib.hid (vbA Q7.gd.ok)
            have HRF := Lib.hid (Q7.p.cl _ (Only.refl _ _))
            have HTB2 := Lib.hid Q7.p.tb
            obtain ⟨bq, oq, eq, x0, x1, x2, x3, x4, x5, x6, x7, x8⟩ := ac_at (HRl.out.keep Q7.kp) hlt
            injection eq with eq
            injection eq with eq1 eq2
            subst eq1 eq2
            rw [HXE.out] at x2 x3
            have HXP := Lib.hid (And.intro x2 x3)
            clear x0 x1 x4 x5 x6 x7 x8 hF7 Q7 HPE
            obtain ⟨o, hgo0⟩ : ∃ o, getR x.p T2.l = o := ⟨_, rfl⟩
            have HGO := Lib.hid hgo0
            clear hgo0
            go_wp2_with fail
            have hcr := vgh B7 z0 F7 T2 x.p w9 HF7.out ⟨HXK.out.pa, HXK.out.pl.1, HXK.out.pl.2⟩
            unfold GetP at hcr
            rw [HGO.out] at hcr
            refine hcr.mono ?_
            clear hcr
            rintro e w10 ⟨rfl, K10⟩
            obtain ⟨R1, hR1⟩ : ∃ R1, o.getD zeroR = R1 := ⟨_, rfl⟩
            obtain ⟨has, hhas⟩ : ∃ has, o.isSome = has := ⟨_, rfl⟩
            obtain ⟨R, hR⟩ : ∃ R, wasR x.p T2.l = R := ⟨_, rfl⟩
            have HWAS := Lib.hid hR
            have HHAD : Hid ((getR x.p T2.l).isSome = has) := Lib.hid (by rw [HGO.out]; exact hhas)
            have HR1 := Lib.hid hR1
            have HHAS := Lib.hid hhas
            rw [hR1, hhas]
            obtain ⟨wy, hwy, kwy, B13⟩ := Blk.al1 (w := w10) rfl (roC R1) 48
            have ky := K10.trans kwy
            have HKY := Lib.hid ky
            have HRF := Lib.hid (HRF.out.keep ky)
            have HTB2 := Lib.hid (HTB2.out.keep ky)
            have HXP := Lib.hid (And.intro (ky.cell HXP.out.1) (ky.cell HXP.out.2))
            have HB13 := Lib.hid B13
            have HLEN := HLEN2
            unfold roC at hwy
            clear K10 kwy ky B13 x2 x3 hR1 hhas hR
            go_upto_region 14 with (fail)
            clear hwy
            obtain ⟨b13, hb13⟩ : ∃ b13, w10.heap.size = b13 := ⟨_, rfl⟩
            rw [hb13] at HB13 ⊢
            clear hb13
            refine' vag (fun (z : Nat) L V9 => Kp wy V9 ∧ (L 10 = true → wy.heap.size ≤ z ∧ Blk V9 z 48 (bif L 11 then roC R else roC zeroR))) [73, 74, 75, 76, 77, 78, 79, 72, 80, 81, 15, 10011, 16] (fun z => [.agg #[.int .i64 T2.c.t0, .int .i64 T2.c.t1, .int .i64 T2.c.t2, .int .i64 T2.c.t3, .int .i64 T2.c.t4, .int .i64 T2.c.t5, .int .i64 T2.c.t6, .int .i64 T2.c.cap, .slice A T2.c.own.length m, .slice z1 T2.l.length z2, .int .i64 T2.now, .int .i64 T2.rf], .slice (some ⟨b2, off, none⟩) l.length m2, .int .i64 k, .pointer (some ⟨b2, off + k * 9, none⟩), .pointer (some ⟨b2, off + k * 9 + 2, none⟩), .agg #[.int .u32 (x.p.a : Int), .int .i64 x.p.l], .tuple #[.agg #[.int .u32 (R.p.a : Int), .int .i64 R.p.l, .int .i64 R.s, .int .i64 R.m, .int .i64 R.l, .int .i64 R.f, .int .u32 (R.x : Int), .int .i64 R.d, .bool R.c], .bool has], .tuple #[.agg #[.int .u32 (R.p.a : Int), .int .i64 R.p.l, .int .i64 R.s, .int .i64 R.m, .int .i64 R.l, .int .i64 R.f, .int .u32 (R.x : Int), .int .i64 R.d, .bool R.c], .bool has], .agg #[.int .u32 (R.p.a : Int), .int .i64 R.p.l, .int .i64 R.s, .int .i64 R.m, .int .i64 R.l, .int .i64 R.f, .int .u32 (R.x : Int), .int .i64 R.d, .bool R.c], .bool has, .pointer (some ⟨z, 0, none⟩), undef, .bool has]) (List.replicate 13 true) [10, 11] (by kernel_rfl) (by kernel_rfl) (fun _ => rfl) (fun _ => rfl) (fun _ => rfl) 0 ⟨(Kp.refl _).drew, fun h => (by cases h)⟩ (fun _ L L' _ e h => by simpa only [e 10 (by simp), e 11 (by simp)] using h) ?_ ?_ ?_
            rotate_left
            · intro z; simp only [List.zip_cons_cons, List.zip_nil_right, wrC, wrN, List.set_cons_zero, List.set_cons_succ, List.set_nil]; rfl
            · repeat' (first | refine And.intro ?_ ?_ | exact trivial)
              all_goals intro z L a w9 hLi d hcl hM hO K hK
              all_goals have u := Blk.f (HTB2.out.keep hM.1) rfl
              all_goals have c2 := hM.1.cell HXP.out.1
              all_goals have c3 := hM.1.cell HXP.out.2
              all_goals try (go_simp; exact hK z _ _ (hO rfl) (fun _ _ => rfl) rfl)
              · go_simp
                have hcr := vdK T2 A z1 m z2 x.p w9 (HRF.out.l.keep hM.1) (by have := HLEN.out; omega)
                rw [HWAS.out, HHAD.out] at hcr
                refine hcr.mono ?_
                rintro e9 wb ⟨rfl, hKc⟩
                exact hK z _ _ ⟨hM.1.trans hKc, fun h => ⟨(hM.2 (by simpa using h)).1, by simpa using (hM.2 (by simpa using h)).2.keep hKc⟩⟩ (fun _ _ => rfl) rfl
              · go_simp
                have n11 : L 11 = false := vac _ hcl (i := 11) rfl (by rfl) hLi
                exact hK w9.heap.size _ _ ⟨hM.1.alloc _, fun _ => ⟨hM.1.size, by simp [n11]; exact Blk.new w9 48 #[.int .u32 0, .int .i64 0, .int .i64 0, .int .i64 0, .int .i64 0, .int .i64 0, .int .u32 0, .int .i64 0, .bool false]⟩⟩ (but1 hLi rfl) rfl
              · have h10 := hM.2 (d 10 rfl)
                rw [hLi] at h10
                simp only [cond_false] at h10
                have hB10 := h10.2
                have y := Blk.f (l := [.int .u32 0, .int .i64 0, .int .i64 0, .int .i64 0, .int .i64 0, .int .i64 0, .int .u32 0, .int .i64 0, .bool false]) hB10 rfl
                have f := Blk.frozen hB10
                go_simp
                exact hK z _ _ ⟨Kp.set9 hM.1 h10.1, fun _ => ⟨h10.1, by simp; exact Blk.set9 hB10⟩⟩ (fun _ _ => rfl) rfl
            intro z L w9 hL hM
            (try simp only [Exit.then])
            have h10 := hM.2 (hL 10 (by decide))
            rw [hL 11 (by decide)] at h10
            have HKZ := Lib.hid hM.1
            have HB15 := Lib.hid h10.2
            have HZ := Lib.hid h10.1
            clear hM hL h10
            have hb13 := HB13.out.keep HKZ.out
            have HB13z := Lib.hid hb13
            have HQY : Hid (PlyR w1 b6 c A m T2 z0 w9) := Lib.hid ((H0.out.keep HKY.out).keep HKZ.out)
            cases o with
            | none =>
              obtain rfl : has = false := HHAS.out.symm
              obtain rfl : R1 = zeroR := HR1.out.symm
              have HB15r : Hid (Blk w9 z 48 (roC R)) := Lib.hid HB15.out
              obtain ⟨q0, q1, q2, q3, q4, q5, q6, q7, q8⟩ := Blk.p9 HB15r.out
              have f0 := Blk.frozen HB15r.out
              obtain ⟨V9, hV9, kV9, B13v, B15v⟩ : ∃ V9, ((((((((w9.setCell ⟨z, 0, none⟩ (.int .u32 0)).setCell ⟨z, 1, none⟩ (.int .i64 0)).setCell ⟨z, 2, none⟩ (.int .i64 0)).setCell ⟨z, 3, none⟩ (.int .i64 0)).setCell ⟨z, 4, none⟩ (.int .i64 0)).setCell ⟨z, 5, none⟩ (.int .i64 0)).setCell ⟨z, 6, none⟩ (.int .u32 0)).setCell ⟨z, 7, none⟩ (.int .i64 0)).setCell ⟨z, 8, none⟩ (.bool false) = V9 ∧ Kp wy V9 ∧ Blk V9 b13 48 (roC zeroR) ∧ Blk V9 z 48 (roC zeroR) := ⟨_, rfl, Kp.set9 HKZ.out HZ.out, HB13z.out.only (Only.set9 (Only.refl [z] w9) (by simp)) (by have := HZ.out; have := HB13.out.lt; simp; omega), Blk.set9 HB15r.out⟩
              have p0 := Blk.f (l := [.int .u32 0, .int .i64 0, .int .i64 0, .int .i64 0, .int .i64 0, .int .i64 0, .int .u32 0, .int .i64 0, .bool false]) B13v rfl
              have v0 := Blk.f (l := [.int .u32 0, .int .i64 0, .int .i64 0, .int .i64 0, .int .i64 0, .int .i64 0, .int .u32 0, .int .i64 0, .bool false]) B15v rfl
              have HQZ : Hid (PlyR w1 b6 c A m T2 z0 V9) := Lib.hid ((H0.out.keep HKY.out).keep kV9)
              have hro : ∀ w, (binOp .neq 48 (.agg #[.int .u32 0, .int .i64 0, .int .i64 0, .int .i64 0, .int .i64 0, .int .i64 0, .int .u32 0, .int .i64 0, .bool false]) (.agg #[.int .u32 0, .int .i64 0, .int .i64 0, .int .i64 0, .int .i64 0, .int .i64 0, .int .u32 0, .int .i64 0, .bool false])).run Tryz.prog w = .ok (.bool false) w := fun w => by
                have h := vgv zeroR zeroR w
                rw [decide_eq_true rfl] at h
                exact h
              clear kV9 B13v B15v
              obtain ⟨B8, E8, n8, hQ8, hc8⟩ := HQZ.out
              obtain ⟨F8, hF8⟩ := hQ8.tab
              have HR8 := Lib.hid (hQ8.p.cl _ (Only.refl _ _))
              have HF8 := Lib.hid hF8
              obtain ⟨u0, u1, u2, u3, u4, u5, u6, u7, u8, u9, u10, u11⟩ := vaI hQ8.p.tb
              clear hQ8 hc8 hF8 hb13
              by_cases h3 : (k : Int) % 3 = 2
              · have e3 : ((k : Int) % 3 == 2) = true := by simp [h3]
                go_wp2_with fail
                refine (vgy B8 z0 F8 T2 A E8 m n8 _ HF8.out HR8.out (by have := HLEN.out; omega) (by rw [HC2.out, HTC.out]; have := HL20.out; omega)).mono ?_
                rintro e w11 ⟨rfl, K11⟩
                have HQN := Lib.hid (HQZ.out.keep K11)
                clear K11
                go_wp2_with fail
                go_roundw
                case rel => exact ⟨k + 1, z0, by omega, rfl, by go_num, by rw [HNX.out]; exact HQN⟩
                case measure => simp [intOf]; omega
              · have e3 : ((k : Int) % 3 == 2) = false := by simp [h3]
                go_wp2_with fail
                go_roundw
                case rel => exact ⟨k + 1, z0, by omega, rfl, by go_num, by rw [HNX.out]; exact HQZ⟩
                case measure => simp [intOf]; omega
            | some r =>
              obtain rfl : has = true := HHAS.out.symm
              obtain rfl : R1 = r := HR1.out.symm
              obtain rfl : R = R1 := by rw [← HWAS.out]; unfold wasR; rw [HGO.out]; rfl
              have HB15r : Hid (Blk w9 z 48 (roC R)) := Lib.hid HB15.out
              have p0 := Blk.f HB13z.out rfl
              obtain ⟨q0, q1, q2, q3, q4, q5, q6, q7, q8⟩ := Blk.p9 HB15r.out
              have hro : ∀ w, (binOp .neq 48 (.agg #[.int .u32 (R.p.a : Int), .int .i64 R.p.l, .int .i64 R.s, .int .i64 R.m, .int .i64 R.l, .int .i64 R.f, .int .u32 (R.x : Int), .int .i64 R.d, .bool R.c]) (.agg #[.int .u32 (R.p.a : Int), .int .i64 R.p.l, .int .i64 R.s, .int .i64 R.m, .int .i64 R.l, .int .i64 R.f, .int .u32 (R.x : Int), .int .i64 R.d, .bool R.c])).run Tryz.prog w = .ok (.bool false) w := fun w => by rw [vgv, decide_eq_true rfl]; rfl
              have HQZ : Hid (PlyR w1 b6 c A m T2 z0 w9) := HQY
              obtain ⟨B8, E8, n8, hQ8, hc8⟩ := HQZ.out
              obtain ⟨F8, hF8⟩ := hQ8.tab
              have HR8 := Lib.hid (hQ8.p.cl _ (Only.refl _ _))
              have HF8 := Lib.hid hF8
              obtain ⟨u0, u1, u2, u3, u4, u5, u6, u7, u8, u9, u10, u11⟩ := vaI hQ8.p.tb
              clear hQ8 hc8 hF8 hb13
              by_cases h3 : (k : Int) % 3 = 2
              · have e3 : ((k : Int) % 3 == 2) = true := by simp [h3]
                go_wp2_with fail
                refine (vgy B8 z0 F8 T2 A E8 m n8 _ HF8.out HR8.out (by have := HLEN.out; omega) (by rw [HC2.out, HTC.out]; have := HL20.out; omega)).mono ?_
                rintro e w11 ⟨rfl, K11⟩
                have HQN := Lib.hid (HQZ.out.keep K11)
                clear K11
                go_wp2_with fail
                go_roundw
                case rel => exact ⟨k + 1, z0, by omega, rfl, by go_num, by rw [HNX.out]; exact HQN⟩
                case measure => simp [intOf]; omega
              · have e3 : ((k : Int) % 3 == 2) = false := by simp [h3]
                go_wp2_with fail
                go_roundw
                case rel => exact ⟨k + 1, z0, by omega, rfl, by go_num, by rw [HNX.out]; exact HQZ⟩
                case measure => simp [intOf]; omega
          · obtain rfl : k = l.length := by omega
            rw [List.take_length] at HP
            have dgi : decide ((l.length : Int) < (l.length : Int)) = false := by simp
            obtain ⟨B2, E, n, hQ, hTc⟩ := HP.out
            obtain ⟨T, hT⟩ : ∃ T, playT c l = T := ⟨_, rfl⟩
            rw [hT] at hQ hTc
            obtain ⟨F2, hF2⟩ := hQ.tab
            have hR2 := hQ.p.cl _ (Only.refl _ _)
            obtain ⟨u0, u1, u2, u3, u4, u5, u6, u7, u8, u9, u10, u11⟩ := vaI hQ.p.tb
            have HQ := Lib.hid hQ
            have HL3 := Lib.hid (vbA hQ.gd.ok)
            have HLO3 : Hid (T.c.own.length ≤ 1000000) := Lib.hid (by rw [hTc]; have := HL20.out; omega)
            clear hQ hTc hT HP
            go_wp2_with fail
            refine (vgy B2 t2 F2 T A E m n wr hF2 hR2 (by have := HL3.out; omega) HLO3.out).mono ?_
            rintro e w5 ⟨rfl, K5⟩
            have HK5 := Lib.hid ((Hk1.out.trans HQ.out.kp).trans K5)
            clear K5 u0 u1 u2 u3 u4 u5 u6 u7 u8 u9 u10 u11 hF2 hR2
            go_wp2_with fail
            refine (vaP _ (HC.out.keep HK5.out) (HF.out.keep HK5.out)).mono ?_
            rintro e w6 ⟨rfl, K6⟩
            go_wp2_with fail
            go_ret
            exact ⟨rfl, HK5.out.trans K6⟩
    · have d6 : decide (40 < (l.length : Int)) = true := decide_eq_true (by omega)
      go_enter Tryz.func5, Tryz.ntmps5
      go_wp2_with fail
      refine (vbB c A _ m _).mono ?_
      rintro e w1 ⟨rfl, K1⟩
      rw [df]
      go_wp2_with fail
      refine (vaP _ (HC.out.keep (HKW.out.trans K1)) (HF.out.keep (HKW.out.trans K1))).mono ?_
      rintro e w5 ⟨rfl, K5⟩
      go_wp2_with fail
      go_ret
      exact ⟨rfl, (HKW.out.trans K1).trans K5⟩
  · have df : decide ((c.own.length : Int) ≤ 20) = false := decide_eq_false hf
    go_enter Tryz.func5, Tryz.ntmps5
    go_wp2_with fail
    refine (vbB c A _ m _).mono ?_
    rintro e w1 ⟨rfl, K1⟩
    rw [df]
    go_wp2_with fail
    refine (vaP _ (HC.out.keep (HKW.out.trans K1)) (HF.out.keep (HKW.out.trans K1))).mono ?_
    rintro e w5 ⟨rfl, K5⟩
    go_wp2_with fail
    go_ret
    exact ⟨rfl, (HKW.out.trans K1).trans K5⟩
end

end Go.Proofs.YtffckpkikdlbpaaGreatDoor
