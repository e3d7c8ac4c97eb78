/- Lemmas and contracts for the theorem of this claim: HdC. -/
import Derived.Test.YtffckpkikdlbpaaGreatDoorZsBw
import Derived.Deep.CutBlock
set_option linter.unusedSimpArgs false
set_option linter.unusedVariables false
namespace Go.Proofs.YtffckpkikdlbpaaGreatDoor
open Go.RowKit Go.Maps
theorem apart_full' {T : Tb} (k : TbOk T) {p q : PI} (hpq : p ≠ q) (one two : Hd) (now : Int) :
    ((heardT T p one now).2.2 = 200 ∨ (heardT (heardT T p one now).1 q two now).2.2 = 200 ∨ (heardT T q two now).2.2 = 200 ∨ (heardT (heardT T q two now).1 p one now).2.2 = 200 → ((heardT (heardT T p one now).1 q two now).1.l.length : Int) = T.c.cap) ∧
    ((heardT T p one now).2.2 ≠ 200 → (heardT (heardT T p one now).1 q two now).2.2 ≠ 200 → (heardT T q two now).2.2 ≠ 200 → (heardT (heardT T q two now).1 p one now).2.2 ≠ 200 → (heardT T p one now).2.2 = (heardT (heardT T q two now).1 p one now).2.2 ∧ (heardT (heardT T p one now).1 q two now).2.2 = (heardT T q two now).2.2 ∧ (heardT (heardT T p one now).1 q two now).1 = (heardT (heardT T q two now).1 p one now).1) :=
  ⟨apart_cap k hpq one two now, fun h1 h2 h3 h4 => apart_same k hpq one two now h1 h2 h3 h4⟩
def ApP (c : Cf) (A : Option Addr) (m b : Nat) (p q : PI) (one two : Hd) (V : World) : Prop := Blk V b 24 (cfC c A c.own.length m) ∧ Blk V (b + 1) 29 #[.int .u32 (p.a : Int), .int .i64 p.l] ∧ Blk V (b + 1 + 1) 29 #[.int .u32 (q.a : Int), .int .i64 q.l] ∧ Blk V (b + 1 + 1 + 1) 31 #[.int .i64 one.f, .int .u32 (one.a : Int), .int .i64 one.m] ∧ Blk V (b + 1 + 1 + 1 + 1) 31 #[.int .i64 two.f, .int .u32 (two.a : Int), .int .i64 two.m]
def SwA (c : Cf) (A : Option Addr) (m b : Nat) (p q : PI) (one two : Hd) (w : World) (B t : Nat) (W : World) : Prop := ∃ T, TQ w W B t T (ApP c A m b p q one two) ∧ T.c = c
set_option maxRecDepth 100000 in
set_option maxHeartbeats 16000000 in
theorem apart_any (c : Cf) (A A2 : Option Addr) (m m2 : Nat) (l : List Ac) (p q : PI) (one two : Hd) (more : Int) (w : World) (hS : SlPI w A m c.own) (hw : ∀ k (hk : k < c.own.length), c.own[k].a < 4294967296) (hR : Rd w 9 Ac.enc A2 l) (hx : ∀ x ∈ l, x.fits) (hp : wfP p) (hq : wfP q) (h1 : one.a < 4294967296) (h2 : two.a < 4294967296) (hC : CapAt w) (hF : FacAt w) :
    Calls Tryz.prog 6 #[cfV c A c.own.length m, .slice A2 l.length m2, pfV p, pfV q, .agg #[.int .i64 one.f, .int .u32 (one.a : Int), .int .i64 one.m], .agg #[.int .i64 two.f, .int .u32 (two.a : Int), .int .i64 two.m], .int .i64 more] w fun e w' => e = .returned (.bool true) ∧ Kp w w' := by
  have HC := Lib.hid hC
  have HF := Lib.hid hF
  have HS := Lib.hid hS
  have HW := Lib.hid hw
  have HR := Lib.hid hR
  have HX := Lib.hid hx
  have HPW := Lib.hid hp
  have HQW := Lib.hid hq
  have H1W := Lib.hid h1
  have H2W := Lib.hid h2
  clear hC hF hS hw hR hx hp hq h1 h2
  obtain ⟨b, hb⟩ : ∃ b, w.heap.size = b := ⟨_, rfl⟩
  obtain ⟨W, hW, kW, B0, B1, B2, B3, B4⟩ : ∃ W, ((((w.alloc (.cells (cfC c A c.own.length m) 24)).alloc (.cells #[.int .u32 (p.a : Int), .int .i64 p.l] 29)).alloc (.cells #[.int .u32 (q.a : Int), .int .i64 q.l] 29)).alloc (.cells #[.int .i64 one.f, .int .u32 (one.a : Int), .int .i64 one.m] 31)).alloc (.cells #[.int .i64 two.f, .int .u32 (two.a : Int), .int .i64 two.m] 31) = W ∧ Kp w W ∧ Blk W b 24 (cfC c A c.own.length m) ∧ Blk W (b + 1) 29 #[.int .u32 (p.a : Int), .int .i64 p.l] ∧ Blk W (b + 1 + 1) 29 #[.int .u32 (q.a : Int), .int .i64 q.l] ∧ Blk W (b + 1 + 1 + 1) 31 #[.int .i64 one.f, .int .u32 (one.a : Int), .int .i64 one.m] ∧ Blk W (b + 1 + 1 + 1 + 1) 31 #[.int .i64 two.f, .int .u32 (two.a : Int), .int .i64 two.m] := ⟨_, rfl, (((((Kp.refl _).alloc _).alloc _).alloc _).alloc _).alloc _, by rw [← hb]; exact ((((Blk.new _ _ _).alloc _).alloc _).alloc _).alloc _, by rw [← hb]; exact (((Blk.new1 _ _ _ _).alloc _).alloc _).alloc _, by rw [← hb]; exact ((Blk.new2 _ _ _ _ _).alloc _).alloc _, by rw [← hb]; exact (Blk.new3 _ _ _ _ _ _).alloc _, by rw [← hb]; simpa using Blk.new ((((w.alloc (.cells (cfC c A c.own.length m) 24)).alloc (.cells #[.int .u32 (p.a : Int), .int .i64 p.l] 29)).alloc (.cells #[.int .u32 (q.a : Int), .int .i64 q.l] 29)).alloc (.cells #[.int .i64 one.f, .int .u32 (one.a : Int), .int .i64 one.m] 31)) 31 #[.int .i64 two.f, .int .u32 (two.a : Int), .int .i64 two.m]⟩
  have HB0 := Lib.hid B0
  have HP := Lib.hid (And.intro B1 (And.intro B2 (And.intro B3 B4)))
  have HKW := Lib.hid kW
  have Hb := Lib.hid (show w.heap.size ≤ b by omega)
  unfold cfC at hW
  obtain ⟨s0, s1, s2, s3, s4, s5, s6, s7, s8⟩ := cf_cells B0
  clear B0 B1 B2 B3 B4 kW
  have hpe := fun u => pfx_eqlv u (p.a : Int) p.l (q.a : Int) q.l
  simp only [pi_beq] at hpe
  by_cases hf : (c.own.length : Int) ≤ 20
  · have df : decide ((c.own.length : Int) ≤ 20) = true := decide_eq_true hf
    have HL20 := Lib.hid (show c.own.length ≤ 1000000 by omega)
    clear hf
    by_cases h6 : l.length ≤ 25
    · have d6 : decide (25 < (l.length : Int)) = false := decide_eq_false (by omega)
      have H25 := Lib.hid h6
      clear h6
      by_cases hpq : p = q
      · rw [decide_eq_true hpq] at hpe
        clear hpq
        go_enter Tryz.func6, Tryz.ntmps6
        go_wp2_with fail
        refine (few_any c A _ m _).mono ?_
        rintro e w1 ⟨rfl, K1⟩
        rw [df]
        have q0 : w1.cell? ⟨b + 1, 0, none⟩ = some (.int .u32 (p.a : Int)) := (HP.out.1.keep K1).cell 0
        have q1 : w1.cell? ⟨b + 1, 1, none⟩ = some (.int .i64 p.l) := (HP.out.1.keep K1).cell 1
        have r0 : w1.cell? ⟨b + 1 + 1, 0, none⟩ = some (.int .u32 (q.a : Int)) := (HP.out.2.1.keep K1).cell 0
        have r1 : w1.cell? ⟨b + 1 + 1, 1, none⟩ = some (.int .i64 q.l) := (HP.out.2.1.keep K1).cell 1
        go_wp2_with fail
        refine (works_any _ (HC.out.keep (HKW.out.trans K1)) (HF.out.keep (HKW.out.trans K1))).mono ?_
        rintro e w5 ⟨rfl, K5⟩
        go_wp2_with fail
        go_ret
        exact ⟨rfl, (HKW.out.trans K1).trans K5⟩
      · have HPQ := Lib.hid hpq
        rw [decide_eq_false hpq] at hpe
        clear hpq
        by_cases hm0 : more < 0
        · have dm0 : decide (more < 0) = true := decide_eq_true hm0
          clear hm0
          go_enter Tryz.func6, Tryz.ntmps6
          go_wp2_with fail
          refine (few_any c A _ m _).mono ?_
          rintro e w1 ⟨rfl, K1⟩
          rw [df]
          have q0 : w1.cell? ⟨b + 1, 0, none⟩ = some (.int .u32 (p.a : Int)) := (HP.out.1.keep K1).cell 0
          have q1 : w1.cell? ⟨b + 1, 1, none⟩ = some (.int .i64 p.l) := (HP.out.1.keep K1).cell 1
          have r0 : w1.cell? ⟨b + 1 + 1, 0, none⟩ = some (.int .u32 (q.a : Int)) := (HP.out.2.1.keep K1).cell 0
          have r1 : w1.cell? ⟨b + 1 + 1, 1, none⟩ = some (.int .i64 q.l) := (HP.out.2.1.keep K1).cell 1
          go_wp2_with fail
          refine (works_any _ (HC.out.keep (HKW.out.trans K1)) (HF.out.keep (HKW.out.trans K1))).mono ?_
          rintro e w5 ⟨rfl, K5⟩
          go_wp2_with fail
          go_ret
          exact ⟨rfl, (HKW.out.trans K1).trans K5⟩
        · have dm0 : decide (more < 0) = false := decide_eq_false hm0
          by_cases hm1 : 1000 < more
          · have dm1 : decide (1000 < more) = true := decide_eq_true hm1
            clear hm0 hm1
            go_enter Tryz.func6, Tryz.ntmps6
            go_wp2_with fail
            refine (few_any c A _ m _).mono ?_
            rintro e w1 ⟨rfl, K1⟩
            rw [df]
            have q0 : w1.cell? ⟨b + 1, 0, none⟩ = some (.int .u32 (p.a : Int)) := (HP.out.1.keep K1).cell 0
            have q1 : w1.cell? ⟨b + 1, 1, none⟩ = some (.int .i64 p.l) := (HP.out.1.keep K1).cell 1
            have r0 : w1.cell? ⟨b + 1 + 1, 0, none⟩ = some (.int .u32 (q.a : Int)) := (HP.out.2.1.keep K1).cell 0
            have r1 : w1.cell? ⟨b + 1 + 1, 1, none⟩ = some (.int .i64 q.l) := (HP.out.2.1.keep K1).cell 1
            go_wp2_with fail
            refine (works_any _ (HC.out.keep (HKW.out.trans K1)) (HF.out.keep (HKW.out.trans K1))).mono ?_
            rintro e w5 ⟨rfl, K5⟩
            go_wp2_with fail
            go_ret
            exact ⟨rfl, (HKW.out.trans K1).trans K5⟩
          · have dm1 : decide (1000 < more) = false := decide_eq_false hm1
            have HMR := Lib.hid (And.intro hm0 hm1)
            clear hm0 hm1
            cases ho : okCf c with
            | false =>
              have HO := Lib.hid ho
              clear ho
              go_enter Tryz.func6, Tryz.ntmps6
              go_wp2_with fail
              refine (few_any c A _ m _).mono ?_
              rintro e w1 ⟨rfl, K1⟩
              rw [df]
              have q0 : w1.cell? ⟨b + 1, 0, none⟩ = some (.int .u32 (p.a : Int)) := (HP.out.1.keep K1).cell 0
              have q1 : w1.cell? ⟨b + 1, 1, none⟩ = some (.int .i64 p.l) := (HP.out.1.keep K1).cell 1
              have r0 : w1.cell? ⟨b + 1 + 1, 0, none⟩ = some (.int .u32 (q.a : Int)) := (HP.out.2.1.keep K1).cell 0
              have r1 : w1.cell? ⟨b + 1 + 1, 1, none⟩ = some (.int .i64 q.l) := (HP.out.2.1.keep K1).cell 1
              obtain ⟨s0, s1, s2, s3, s4, s5, s6, s7, s8⟩ := cf_cells (HB0.out.keep K1)
              go_wp2_with fail
              refine (right08_any c A m _ (HS.out.keep (HKW.out.trans K1)) HW.out HL20.out).mono ?_
              rintro e w2 ⟨rfl, K2⟩
              rw [HO.out]
              have k2 := K1.trans K2
              go_wp2_with fail
              refine (works_any _ (HC.out.keep (HKW.out.trans k2)) (HF.out.keep (HKW.out.trans k2))).mono ?_
              rintro e w5 ⟨rfl, K5⟩
              go_wp2_with fail
              go_ret
              exact ⟨rfl, (HKW.out.trans k2).trans K5⟩
            | true =>
              have HO := Lib.hid ho
              clear ho
              go_enter Tryz.func6, Tryz.ntmps6
              go_wp2_with fail
              refine (few_any c A _ m _).mono ?_
              rintro e w1 ⟨rfl, K1⟩
              rw [df]
              have q0 : w1.cell? ⟨b + 1, 0, none⟩ = some (.int .u32 (p.a : Int)) := (HP.out.1.keep K1).cell 0
              have q1 : w1.cell? ⟨b + 1, 1, none⟩ = some (.int .i64 p.l) := (HP.out.1.keep K1).cell 1
              have r0 : w1.cell? ⟨b + 1 + 1, 0, none⟩ = some (.int .u32 (q.a : Int)) := (HP.out.2.1.keep K1).cell 0
              have r1 : w1.cell? ⟨b + 1 + 1, 1, none⟩ = some (.int .i64 q.l) := (HP.out.2.1.keep K1).cell 1
              obtain ⟨s0, s1, s2, s3, s4, s5, s6, s7, s8⟩ := cf_cells (HB0.out.keep K1)
              go_wp2_with fail
              refine (right08_any c A m _ (HS.out.keep (HKW.out.trans K1)) HW.out HL20.out).mono ?_
              rintro e w2 ⟨rfl, K2⟩
              rw [HO.out]
              have k2 := K1.trans K2
              clear q0 q1 r0 r1
              obtain ⟨s0, s1, s2, s3, s4, s5, s6, s7, s8⟩ := cf_cells (HB0.out.keep k2)
              go_wp2_with fail
              refine (rnew_any c A m w2 (HS.out.keep (HKW.out.trans k2)) (HC.out.keep (HKW.out.trans k2)) HW.out HO.out).mono ?_
              rintro e w3 ⟨t, F, rfl, hM, K3⟩
              have HT := Lib.hid (TQ.new (P := ApP c A m b p q one two) (HKW.out.trans k2) hM K3 (fun V k => ⟨(HB0.out.keep k2).keep k, (HP.out.1.keep k2).keep k, (HP.out.2.1.keep k2).keep k, (HP.out.2.2.1.keep k2).keep k, (HP.out.2.2.2.keep k2).keep k⟩) (Good.new HO.out HW.out) HC.out HF.out)
              obtain ⟨B, hB⟩ : ∃ B, w2.heap.size = B := ⟨_, rfl⟩
              rw [hB] at HT
              clear hB hM K1 K2 K3 k2 s0 s1 s2 s3 s4 s5 s6 s7 s8 df hpe dm0 dm1
              go_wp2_with fail
              refine (num_any 0 _).mono ?_
              rintro e w4 ⟨rfl, hw4⟩
              rw [← hw4]
              clear hw4 w4
              clear hW
              go_wp2_with fail
              go_loopw [17] (fun s wr => ∃ (k : Nat) (T : Tb), k ≤ l.length ∧ s = .int .i64 k ∧ Hid (TQ w wr B t T (ApP c A m b p q one two)) ∧ Hid (T.c = c)) (fun s _ => l.length - (intOf s).toNat)
              case atStart => exact ⟨0, newT c, Nat.zero_le _, rfl, HT, Lib.hid rfl⟩
              case round =>
                obtain ⟨k, T, hk, rfl, HTQ, HTC⟩ := hrel
                have hl25 := H25.out
                by_cases hlt : k < l.length
                · have hgi : (k : Int) < (l.length : Int) := by omega
                  have hg0 : (0 : Int) ≤ (k : Int) := by omega
                  obtain ⟨b2, off, hA2, x0, x1, x2, x3, x4, x5, x6, x7, x8⟩ := ac_at (HR.out.keep HTQ.out.kp) hlt
                  have HXK := Lib.hid (HX.out _ (List.getElem_mem hlt))
                  subst hA2
                  obtain ⟨x, hx⟩ : ∃ x, l[k] = x := ⟨_, rfl⟩
                  rw [hx] at x0 x1 x2 x3 x4 x5 x6 x7 x8 HXK
                  clear hx
                  go_upto_block 1 with (fail)
                  go_cut [] from 65 to 106 (fun wx => SwA c A m b p q one two w B t wx)
                  case first =>
                    obtain ⟨b8, hb8⟩ : ∃ b8, wr.heap.size = b8 := ⟨_, rfl⟩
                    obtain ⟨W1, hW1, kW1, B8⟩ : ∃ W1, wr.alloc (.cells (acC x) 33) = W1 ∧ Kp wr W1 ∧ Blk W1 b8 33 (acC x) := ⟨_, rfl, (Kp.refl _).alloc _, by rw [← hb8]; exact Blk.new _ _ _⟩
                    have HS2 := Lib.hid (HTQ.out.add kW1 (fun V => Blk V b8 33 (acC x)) (fun V h => (h b8 (by omega) B8.lt).trans B8))
                    have HB8 := Lib.hid B8
                    unfold acC at hW1
                    clear B8 kW1
                    obtain ⟨FQ, hFQ⟩ := HS2.out.tab
                    have HFQ := Lib.hid hFQ
                    obtain ⟨nw, hnw⟩ : ∃ nw, T.now = nw := ⟨_, rfl⟩
                    have HNW := Lib.hid hnw
                    have HNW0 := Lib.hid (show 0 ≤ nw by rw [← hnw]; exact HTQ.out.gd.ok.t.1)
                    obtain ⟨a0, ha0⟩ : ∃ a0, atV x nw = a0 := ⟨_, rfl⟩
                    have HA0 := Lib.hid ha0
                    clear hnw ha0 hFQ
                    go_upto_region 10 with (fail)
                    clear hW1 x0 x1 x2 x3 x4 x5 x6 x7 x8
                    refine wp_anyZ [75, 76, 77, 78, 19] [.agg #[.int .i64 x.wh, .int .i64 x.fc, .int .u32 (x.p.a : Int), .int .i64 x.p.l, .int .i64 x.h.f, .int .u32 (x.h.a : Int), .int .i64 x.h.m, .int .i64 x.more, .bool x.la], .pointer (some ⟨t, 0, none⟩), .int .i64 nw, .int .i64 a0, .int .i64 a0] [true, true, true, true, true] (by kernel_rfl) (by kernel_rfl) (by kernel_rfl) rfl rfl (by decide) rfl rfl rfl ?_ ?_
                    · intro i o a w9 ho hw f g hkp K hK
                      have hi : i < 5 := by have := (List.getElem?_eq_some_iff.1 ho).1; simpa using this
                      have hcs : i = 0 ∨ i = 1 ∨ i = 2 ∨ i = 3 ∨ i = 4 := by omega
                      clear hi
                      rcases hcs with rfl | rfl | rfl | rfl | rfl
                      all_goals
                        first | simp only [List.getElem?_cons_zero, List.getElem?_cons_succ, Option.some.injEq] at ho | replace ho := Option.some.inj ho
                        subst ho
                      · have t18 : a.tmps[18]?.getD undef = .pointer (some ⟨b8, 0, none⟩) := g 18 (by decide)
                        have p0 : w9.cell? ⟨b8, 0, none⟩ = some (.int .i64 x.wh) := ((HB8.out.keep hkp).cell 0)
                        have p1 : w9.cell? ⟨b8, 1, none⟩ = some (.int .i64 x.fc) := ((HB8.out.keep hkp).cell 1)
                        have p2 : w9.cell? ⟨b8, 2, none⟩ = some (.int .u32 (x.p.a : Int)) := ((HB8.out.keep hkp).cell 2)
                        have p3 : w9.cell? ⟨b8, 3, none⟩ = some (.int .i64 x.p.l) := ((HB8.out.keep hkp).cell 3)
                        have p4 : w9.cell? ⟨b8, 4, none⟩ = some (.int .i64 x.h.f) := ((HB8.out.keep hkp).cell 4)
                        have p5 : w9.cell? ⟨b8, 5, none⟩ = some (.int .u32 (x.h.a : Int)) := ((HB8.out.keep hkp).cell 5)
                        have p6 : w9.cell? ⟨b8, 6, none⟩ = some (.int .i64 x.h.m) := ((HB8.out.keep hkp).cell 6)
                        have p7 : w9.cell? ⟨b8, 7, none⟩ = some (.int .i64 x.more) := ((HB8.out.keep hkp).cell 7)
                        have p8 : w9.cell? ⟨b8, 8, none⟩ = some (.bool x.la) := ((HB8.out.keep hkp).cell 8)
                        unfold Oper.wp
                        simp only [execOp, Act.eval, Array.getD_eq_getD_getElem?]
                        go_simp
                        exact hK _ _ (Kp.refl _) rfl
                      · have t15 : a.tmps[15]?.getD undef = .pointer (some ⟨t, 0, none⟩) := g 15 (by decide)
                        unfold Oper.wp
                        simp only [execOp, Act.eval, Array.getD_eq_getD_getElem?]
                        go_simp
                        exact hK _ _ (Kp.refl _) rfl
                      · have t76 : a.tmps[76]?.getD undef = .pointer (some ⟨t, 0, none⟩) := f 1 rfl
                        unfold Oper.wp
                        simp only [execOp, Act.eval, Array.getD_eq_getD_getElem?]
                        go_simp
                        refine (now_any B t FQ T w9 (HFQ.out.keep hkp)).mono ?_
                        rintro e wb ⟨rfl, hwb⟩
                        rw [hwb, HNW.out]
                        have hKc := Kp.refl w9
                        exact hK _ _ hKc rfl
                      · have t75 : a.tmps[75]?.getD undef = .agg #[.int .i64 x.wh, .int .i64 x.fc, .int .u32 (x.p.a : Int), .int .i64 x.p.l, .int .i64 x.h.f, .int .u32 (x.h.a : Int), .int .i64 x.h.m, .int .i64 x.more, .bool x.la] := f 0 rfl
                        have t77 : a.tmps[77]?.getD undef = .int .i64 nw := f 2 rfl
                        unfold Oper.wp
                        simp only [execOp, Act.eval, Array.getD_eq_getD_getElem?]
                        go_simp
                        refine (at_any x nw _ HNW0.out).mono ?_
                        rintro e wb ⟨rfl, hKc⟩
                        rw [HA0.out]
                        exact hK _ _ hKc rfl
                      · have t78 : a.tmps[78]?.getD undef = .int .i64 a0 := f 3 rfl
                        unfold Oper.wp
                        simp only [execOp, Act.eval, Array.getD_eq_getD_getElem?]
                        go_simp
                        exact hK _ _ (Kp.refl _) rfl
                    intro w9 KV
                    (try simp only [Exit.then])
                    simp only [wrS, List.zip_cons_cons, List.zip_nil_right, List.foldl_cons, List.foldl_nil, List.setIfInBounds_toArray, List.set_cons_zero, List.set_cons_succ]
                    have HS3 := Lib.hid (HS2.out.keep KV)
                    have HB8b := Lib.hid (HB8.out.keep KV)
                    clear HS2 HB8 KV HFQ HNW HNW0 HA0
                    have q0 : w9.cell? ⟨b8, 0, none⟩ = some (.int .i64 x.wh) := HB8b.out.cell 0
                    have q1 : w9.cell? ⟨b8, 1, none⟩ = some (.int .i64 x.fc) := HB8b.out.cell 1
                    have q2 : w9.cell? ⟨b8, 2, none⟩ = some (.int .u32 (x.p.a : Int)) := HB8b.out.cell 2
                    have q3 : w9.cell? ⟨b8, 3, none⟩ = some (.int .i64 x.p.l) := HB8b.out.cell 3
                    have q4 : w9.cell? ⟨b8, 4, none⟩ = some (.int .i64 x.h.f) := HB8b.out.cell 4
                    have q5 : w9.cell? ⟨b8, 5, none⟩ = some (.int .u32 (x.h.a : Int)) := HB8b.out.cell 5
                    have q6 : w9.cell? ⟨b8, 6, none⟩ = some (.int .i64 x.h.m) := HB8b.out.cell 6
                    clear HB8b
                    obtain ⟨wh, hwh⟩ : ∃ wh, x.wh = wh := ⟨_, rfl⟩
                    rw [hwh] at q0
                    clear hwh
                    go_upto_block 2 with (fail)
                    refine wp_block ?_
                    refine wp_seq_k (fun K9 hK9 => ?_)
                    go_cut [81] from 81 to 86 (fun s wx => s = .bool (decide (0 ≤ wh ∧ wh ≤ 4)) ∧ w9 = wx)
                    case first =>
                      by_cases h0 : wh = 0
                      · have e0 : (wh == 0) = true := by simp [h0]
                        have hd : decide (0 ≤ wh ∧ wh ≤ 4) = true := decide_eq_true (by omega)
                        clear h0
                        go_wp2_with fail
                        go_meet
                        case rel => exact ⟨by first | rw [hd] | rfl, rfl⟩
                      · have e0 : (wh == 0) = false := by simp [h0]
                        by_cases h1 : wh = 1
                        · have e1 : (wh == 1) = true := by simp [h1]
                          have hd : decide (0 ≤ wh ∧ wh ≤ 4) = true := decide_eq_true (by omega)
                          clear h0; clear h1
                          go_wp2_with fail
                          go_meet
                          case rel => exact ⟨by first | rw [hd] | rfl, rfl⟩
                        · have e1 : (wh == 1) = false := by simp [h1]
                          by_cases h2 : wh = 2
                          · have e2 : (wh == 2) = true := by simp [h2]
                            have hd : decide (0 ≤ wh ∧ wh ≤ 4) = true := decide_eq_true (by omega)
                            clear h0; clear h1; clear h2
                            go_wp2_with fail
                            go_meet
                            case rel => exact ⟨by first | rw [hd] | rfl, rfl⟩
                          · have e2 : (wh == 2) = false := by simp [h2]
                            by_cases h3 : wh = 3
                            · have e3 : (wh == 3) = true := by simp [h3]
                              have hd : decide (0 ≤ wh ∧ wh ≤ 4) = true := decide_eq_true (by omega)
                              clear h0; clear h1; clear h2; clear h3
                              go_wp2_with fail
                              go_meet
                              case rel => exact ⟨by first | rw [hd] | rfl, rfl⟩
                            · have e3 : (wh == 3) = false := by simp [h3]
                              by_cases h4 : wh = 4
                              · have e4 : (wh == 4) = true := by simp [h4]
                                have hd : decide (0 ≤ wh ∧ wh ≤ 4) = true := decide_eq_true (by omega)
                                clear h0; clear h1; clear h2; clear h3; clear h4
                                go_wp2_with fail
                                go_meet
                                case rel => exact ⟨by first | rw [hd] | rfl, rfl⟩
                              · have e4 : (wh == 4) = false := by simp [h4]
                                have hd : decide (0 ≤ wh ∧ wh ≤ 4) = false := decide_eq_false (by omega)
                                clear h0; clear h1; clear h2; clear h3; clear h4
                                go_wp2_with fail
                                go_meet
                                case rel => exact ⟨by first | rw [hd] | rfl, rfl⟩
                    case rest =>
                      obtain ⟨rfl, rfl⟩ := hcut
                      cases hH : decide (0 ≤ wh ∧ wh ≤ 4) with
                      | true =>
                        clear hH
                        go_wp2_with fail
                        refine (hear_TQ w w9 B t T _ HS3.out x.p x.h a0 ⟨HXK.out.pa, HXK.out.pl.1, HXK.out.pl.2⟩ HXK.out.ha).mono ?_
                        rintro e W4 ⟨rfl, S4⟩
                        go_wp2_with fail
                        go_meet
                        case rel => exact ⟨_, S4.imp (fun V h => h.1), (heard_c T x.p x.h a0).trans HTC.out⟩
                      | false =>
                        have HH := Lib.hid (of_decide_eq_false hH)
                        clear hH
                        by_cases h5 : wh = 5
                        · have e5 : (wh == 5) = true := by simp [h5]
                          clear h5
                          go_wp2_with fail
                          refine (lose_TQ w w9 B t T _ HS3.out x.fc a0).mono ?_
                          rintro e W4 ⟨rfl, S4⟩
                          go_wp2_with fail
                          go_meet
                          case rel => exact ⟨_, S4.imp (fun V h => h.1), (lost_c T x.fc a0).trans HTC.out⟩
                        · have e5 : (wh == 5) = false := by simp [h5]
                          clear h5
                          by_cases h6 : wh = 6
                          · have e6 : (wh == 6) = true := by simp [h6]
                            clear h6
                            go_wp2_with fail
                            refine (exp_TQ w w9 B t T _ HS3.out a0).mono ?_
                            rintro e W4 ⟨rfl, S4⟩
                            go_wp2_with fail
                            go_meet
                            case rel => exact ⟨_, S4.imp (fun V h => h.1), (exp_c T a0).trans HTC.out⟩
                          · have e6 : (wh == 6) = false := by simp [h6]
                            clear h6
                            by_cases h7 : wh = 7
                            · have e7 : (wh == 7) = true := by simp [h7]
                              clear h7
                              go_wp2_with fail
                              refine (exp_TQ w w9 B t T _ HS3.out a0).mono ?_
                              rintro e W4 ⟨rfl, S4⟩
                              go_wp2_with fail
                              go_meet
                              case rel => exact ⟨_, S4.imp (fun V h => h.1), (exp_c T a0).trans HTC.out⟩
                            · have e7 : (wh == 7) = false := by simp [h7]
                              clear h7
                              go_wp2_with fail
                              go_meet
                              case rel => exact ⟨T, HS3.out.imp (fun V h => h.1), HTC.out⟩
                  case rest =>
                    obtain ⟨T2, S6, hc6⟩ := hcut
                    have HS6 := Lib.hid S6
                    have HC6 := Lib.hid hc6
                    clear S6 hc6
                    go_wp2_with fail
                    go_roundw
                    case rel => exact ⟨k + 1, T2, by omega, by go_num, HS6, HC6⟩
                    case measure => simp [intOf]; omega
                · have hgi : ¬ (k : Int) < (l.length : Int) := by omega
                  have dg : decide ((k : Int) < (l.length : Int)) = false := decide_eq_false hgi
                  obtain ⟨FQ, hFQ⟩ := HTQ.out.tab
                  obtain ⟨nw, hnw⟩ : ∃ nw, T.now = nw := ⟨_, rfl⟩
                  have HNW := Lib.hid hnw
                  have HNW0 := Lib.hid (show 0 ≤ nw by rw [← hnw]; exact HTQ.out.gd.ok.t.1)
                  go_wp2_with fail
                  refine (now_any B t FQ T wr hFQ).mono ?_
                  rintro e w' ⟨rfl, hw'⟩
                  rw [hw', hnw]
                  clear hw' w' hnw
                  by_cases h61 : 2305843009213693952 < nw
                  · have d61 : decide (2305843009213693952 < nw) = true := decide_eq_true h61
                    clear h61 hFQ
                    go_wp2_with fail
                    refine (works_any _ HTQ.out.gs.2.2.1 HTQ.out.gs.2.2.2).mono ?_
                    rintro e w5 ⟨rfl, K5⟩
                    go_wp2_with fail
                    go_ret
                    exact ⟨rfl, HTQ.out.kp.trans K5⟩
                  · have d61 : decide (2305843009213693952 < nw) = false := decide_eq_false h61
                    have m1 : -9223372036854775808 ≤ nw + more := by have := HMR.out; have := HNW0.out; omega
                    have m2 : nw + more ≤ 9223372036854775807 := by have := HMR.out; omega
                    obtain ⟨at0, hat0⟩ : ∃ at0, nw + more = at0 := ⟨_, rfl⟩
                    clear h61 hFQ
                    go_wp2_with fail
                    refine (copy_TQ w wr B t T _ HTQ.out).mono ?_
                    rintro e W2 ⟨u, rfl, S2, K2⟩
                    obtain ⟨CU, hCU⟩ : ∃ CU, wr.heap.size = CU := ⟨_, rfl⟩
                    rw [hCU] at S2
                    have HS2 := Lib.hid S2
                    clear K2 S2 hCU
                    obtain ⟨FQ2, hFQ2⟩ := HS2.out.fst.tab
                    go_wp2_with fail
                    refine (now_any B t FQ2 T W2 hFQ2).mono ?_
                    rintro e w' ⟨rfl, hw'⟩
                    rw [hw', HNW.out]
                    clear hw' w' hFQ2
                    have q0 : W2.cell? ⟨b + 1, 0, none⟩ = some (.int .u32 (p.a : Int)) := HS2.out.p.2.1.cell 0
                    have q1 : W2.cell? ⟨b + 1, 1, none⟩ = some (.int .i64 p.l) := HS2.out.p.2.1.cell 1
                    have g0 : W2.cell? ⟨b + 1 + 1 + 1, 0, none⟩ = some (.int .i64 one.f) := HS2.out.p.2.2.2.1.cell 0
                    have g1 : W2.cell? ⟨b + 1 + 1 + 1, 1, none⟩ = some (.int .u32 (one.a : Int)) := HS2.out.p.2.2.2.1.cell 1
                    have g2 : W2.cell? ⟨b + 1 + 1 + 1, 2, none⟩ = some (.int .i64 one.m) := HS2.out.p.2.2.2.1.cell 2
                    go_wp2_with fail
                    clear hat0 m1 m2
                    refine (hear_TT w W2 _ _ _ _ _ _ _ HS2.out p one at0 HPW.out H1W.out).mono ?_
                    rintro e V0 ⟨rfl, SX⟩
                    clear q0 q1 g0 g1 g2
                    obtain ⟨W4, hW4, kW4⟩ : ∃ W4, V0.alloc (.cells (roC (heardT T p one at0).2.1) 48) = W4 ∧ Kp V0 W4 := ⟨_, rfl, (Kp.refl _).alloc _⟩
                    have HS4 := Lib.hid (SX.keep kW4)
                    unfold roC at hW4
                    clear SX kW4
                    have q0 : W4.cell? ⟨b + 1 + 1, 0, none⟩ = some (.int .u32 (q.a : Int)) := HS4.out.p.2.2.1.cell 0
                    have q1 : W4.cell? ⟨b + 1 + 1, 1, none⟩ = some (.int .i64 q.l) := HS4.out.p.2.2.1.cell 1
                    have g0 : W4.cell? ⟨b + 1 + 1 + 1 + 1, 0, none⟩ = some (.int .i64 two.f) := HS4.out.p.2.2.2.2.cell 0
                    have g1 : W4.cell? ⟨b + 1 + 1 + 1 + 1, 1, none⟩ = some (.int .u32 (two.a : Int)) := HS4.out.p.2.2.2.2.cell 1
                    have g2 : W4.cell? ⟨b + 1 + 1 + 1 + 1, 2, none⟩ = some (.int .i64 two.m) := HS4.out.p.2.2.2.2.cell 2
                    go_wp2_with fail
                    skip
                    refine (hear_TT w W4 _ _ _ _ _ _ _ HS4.out q two at0 HQW.out H2W.out).mono ?_
                    rintro e V1 ⟨rfl, SX⟩
                    clear q0 q1 g0 g1 g2
                    obtain ⟨W5, hW5, kW5⟩ : ∃ W5, V1.alloc (.cells (roC (heardT (heardT T p one at0).1 q two at0).2.1) 48) = W5 ∧ Kp V1 W5 := ⟨_, rfl, (Kp.refl _).alloc _⟩
                    have HS5 := Lib.hid (SX.keep kW5)
                    unfold roC at hW5
                    clear SX kW5
                    have q0 : W5.cell? ⟨b + 1 + 1, 0, none⟩ = some (.int .u32 (q.a : Int)) := HS5.out.p.2.2.1.cell 0
                    have q1 : W5.cell? ⟨b + 1 + 1, 1, none⟩ = some (.int .i64 q.l) := HS5.out.p.2.2.1.cell 1
                    have g0 : W5.cell? ⟨b + 1 + 1 + 1 + 1, 0, none⟩ = some (.int .i64 two.f) := HS5.out.p.2.2.2.2.cell 0
                    have g1 : W5.cell? ⟨b + 1 + 1 + 1 + 1, 1, none⟩ = some (.int .u32 (two.a : Int)) := HS5.out.p.2.2.2.2.cell 1
                    have g2 : W5.cell? ⟨b + 1 + 1 + 1 + 1, 2, none⟩ = some (.int .i64 two.m) := HS5.out.p.2.2.2.2.cell 2
                    go_wp2_with fail
                    skip
                    refine (hear_TT w W5 _ _ _ _ _ _ _ HS5.out.swap q two at0 HQW.out H2W.out).mono ?_
                    rintro e V2 ⟨rfl, SX⟩
                    clear q0 q1 g0 g1 g2
                    obtain ⟨W6, hW6, kW6⟩ : ∃ W6, V2.alloc (.cells (roC (heardT T q two at0).2.1) 48) = W6 ∧ Kp V2 W6 := ⟨_, rfl, (Kp.refl _).alloc _⟩
                    have HS6 := Lib.hid (SX.keep kW6)
                    unfold roC at hW6
                    clear SX kW6
                    have q0 : W6.cell? ⟨b + 1, 0, none⟩ = some (.int .u32 (p.a : Int)) := HS6.out.p.2.1.cell 0
                    have q1 : W6.cell? ⟨b + 1, 1, none⟩ = some (.int .i64 p.l) := HS6.out.p.2.1.cell 1
                    have g0 : W6.cell? ⟨b + 1 + 1 + 1, 0, none⟩ = some (.int .i64 one.f) := HS6.out.p.2.2.2.1.cell 0
                    have g1 : W6.cell? ⟨b + 1 + 1 + 1, 1, none⟩ = some (.int .u32 (one.a : Int)) := HS6.out.p.2.2.2.1.cell 1
                    have g2 : W6.cell? ⟨b + 1 + 1 + 1, 2, none⟩ = some (.int .i64 one.m) := HS6.out.p.2.2.2.1.cell 2
                    go_wp2_with fail
                    skip
                    refine (hear_TT w W6 _ _ _ _ _ _ _ HS6.out p one at0 HPW.out H1W.out).mono ?_
                    rintro e V3 ⟨rfl, SX⟩
                    clear q0 q1 g0 g1 g2
                    obtain ⟨W7, hW7, kW7⟩ : ∃ W7, V3.alloc (.cells (roC (heardT (heardT T q two at0).1 p one at0).2.1) 48) = W7 ∧ Kp V3 W7 := ⟨_, rfl, (Kp.refl _).alloc _⟩
                    have HS7 := Lib.hid (SX.keep kW7)
                    unfold roC at hW7
                    clear SX kW7
                    have HAF := Lib.hid (apart_full' HTQ.out.gd.ok HPQ.out one two at0)
                    obtain ⟨FA, hFA⟩ := HS7.out.snd.tab
                    obtain ⟨FB, hFB⟩ := HS7.out.fst.tab
                    have HFA := Lib.hid hFA
                    have HFB := Lib.hid hFB
                    have HBC := Lib.hid HS7.out.p.1
                    have HCW := Lib.hid HS7.out.fst.gs.2.2.1
                    have HFW := Lib.hid HS7.out.fst.gs.2.2.2
                    have HLA := Lib.hid HS7.out.snd.len_own
                    have HLB := Lib.hid HS7.out.fst.len_own
                    obtain ⟨F, hF1⟩ : ∃ F, (heardT T p one at0).2.2 = F := ⟨_, rfl⟩
                    obtain ⟨G, hG1⟩ : ∃ G, (heardT (heardT T p one at0).1 q two at0).2.2 = G := ⟨_, rfl⟩
                    obtain ⟨Hq, hH1⟩ : ∃ Hq, (heardT T q two at0).2.2 = Hq := ⟨_, rfl⟩
                    obtain ⟨I, hI1⟩ : ∃ I, (heardT (heardT T q two at0).1 p one at0).2.2 = I := ⟨_, rfl⟩
                    rw [hF1, hG1, hH1, hI1] at HAF
                    rw [hF1, hG1, hH1, hI1]
                    obtain ⟨T2, hT2⟩ : ∃ T2, (heardT (heardT T p one at0).1 q two at0).1 = T2 := ⟨_, rfl⟩
                    obtain ⟨U2, hU2⟩ : ∃ U2, (heardT (heardT T q two at0).1 p one at0).1 = U2 := ⟨_, rfl⟩
                    rw [hT2] at HAF HFA HLA
                    rw [hU2] at HAF HFB HLB
                    clear hF1 hG1 hH1 hI1 hT2 hU2 hFA hFB
                    obtain ⟨cap, hcap⟩ : ∃ cap, c.cap = cap := ⟨_, rfl⟩
                    have HCP := Lib.hid hcap
                    clear hcap
                    go_upto_region 31 with (fail)
                    go_cut [166] from 149 to 166 (fun s wx => s = .bool (decide (F = 200 ∨ G = 200 ∨ Hq = 200 ∨ I = 200)) ∧ W7 = wx)
                    case first =>
                      by_cases h0 : F = 200
                      · have e0 : (F == 200) = true := by simp [h0]
                        have hd : decide (F = 200 ∨ G = 200 ∨ Hq = 200 ∨ I = 200) = true := decide_eq_true (.inl h0)
                        clear h0
                        go_wp2_with fail
                        refine (num_any F _).mono ?_
                        rintro e w5 ⟨rfl, hw5⟩
                        rw [← hw5]
                        clear hw5 w5
                        go_wp2_with fail
                        go_meet
                        case rel => exact ⟨by first | rw [hd] | rfl, rfl⟩
                      · have e0 : (F == 200) = false := by simp [h0]
                        by_cases h1 : G = 200
                        · have e1 : (G == 200) = true := by simp [h1]
                          have hd : decide (F = 200 ∨ G = 200 ∨ Hq = 200 ∨ I = 200) = true := decide_eq_true (.inr (.inl h1))
                          clear h0 h1
                          go_wp2_with fail
                          refine (num_any F _).mono ?_
                          rintro e w5 ⟨rfl, hw5⟩
                          rw [← hw5]
                          clear hw5 w5
                          go_wp2_with fail
                          refine (num_any G _).mono ?_
                          rintro e w5 ⟨rfl, hw5⟩
                          rw [← hw5]
                          clear hw5 w5
                          go_wp2_with fail
                          go_meet
                          case rel => exact ⟨by first | rw [hd] | rfl, rfl⟩
                        · have e1 : (G == 200) = false := by simp [h1]
                          by_cases h2 : Hq = 200
                          · have e2 : (Hq == 200) = true := by simp [h2]
                            have hd : decide (F = 200 ∨ G = 200 ∨ Hq = 200 ∨ I = 200) = true := decide_eq_true (.inr (.inr (.inl h2)))
                            clear h0 h1 h2
                            go_wp2_with fail
                            refine (num_any F _).mono ?_
                            rintro e w5 ⟨rfl, hw5⟩
                            rw [← hw5]
                            clear hw5 w5
                            go_wp2_with fail
                            refine (num_any G _).mono ?_
                            rintro e w5 ⟨rfl, hw5⟩
                            rw [← hw5]
                            clear hw5 w5
                            go_wp2_with fail
                            refine (num_any Hq _).mono ?_
                            rintro e w5 ⟨rfl, hw5⟩
                            rw [← hw5]
                            clear hw5 w5
                            go_wp2_with fail
                            go_meet
                            case rel => exact ⟨by first | rw [hd] | rfl, rfl⟩
                          · have e2 : (Hq == 200) = false := by simp [h2]
                            by_cases h3 : I = 200
                            · have e3 : (I == 200) = true := by simp [h3]
                              have hd : decide (F = 200 ∨ G = 200 ∨ Hq = 200 ∨ I = 200) = true := decide_eq_true (.inr (.inr (.inr (h3))))
                              clear h0 h1 h2 h3
                              go_wp2_with fail
                              refine (num_any F _).mono ?_
                              rintro e w5 ⟨rfl, hw5⟩
                              rw [← hw5]
                              clear hw5 w5
                              go_wp2_with fail
                              refine (num_any G _).mono ?_
                              rintro e w5 ⟨rfl, hw5⟩
                              rw [← hw5]
                              clear hw5 w5
                              go_wp2_with fail
                              refine (num_any Hq _).mono ?_
                              rintro e w5 ⟨rfl, hw5⟩
                              rw [← hw5]
                              clear hw5 w5
                              go_wp2_with fail
                              refine (num_any I _).mono ?_
                              rintro e w5 ⟨rfl, hw5⟩
                              rw [← hw5]
                              clear hw5 w5
                              go_wp2_with fail
                              go_meet
                              case rel => exact ⟨by first | rw [hd] | rfl, rfl⟩
                            · have e3 : (I == 200) = false := by simp [h3]
                              have hd : decide (F = 200 ∨ G = 200 ∨ Hq = 200 ∨ I = 200) = false := decide_eq_false (by rintro (z | z | z | z) <;> contradiction)
                              clear h0 h1 h2 h3
                              go_wp2_with fail
                              refine (num_any F _).mono ?_
                              rintro e w5 ⟨rfl, hw5⟩
                              rw [← hw5]
                              clear hw5 w5
                              go_wp2_with fail
                              refine (num_any G _).mono ?_
                              rintro e w5 ⟨rfl, hw5⟩
                              rw [← hw5]
                              clear hw5 w5
                              go_wp2_with fail
                              refine (num_any Hq _).mono ?_
                              rintro e w5 ⟨rfl, hw5⟩
                              rw [← hw5]
                              clear hw5 w5
                              go_wp2_with fail
                              refine (num_any I _).mono ?_
                              rintro e w5 ⟨rfl, hw5⟩
                              rw [← hw5]
                              clear hw5 w5
                              go_wp2_with fail
                              go_meet
                              case rel => exact ⟨by first | rw [hd] | rfl, rfl⟩
                    case rest =>
                      obtain ⟨rfl, rfl⟩ := hcut
                      cases hany : decide (F = 200 ∨ G = 200 ∨ Hq = 200 ∨ I = 200) with
                      | true =>
                        have HLN := Lib.hid (show (T2.l.length : Int) = cap by rw [(HAF.out.1 (of_decide_eq_true hany)), HTC.out, HCP.out])
                        clear hany
                        go_upto_region 32 with (fail)
                        refine wp_anyZ [167, 168, 169, 170, 171, 172, 173, 174, 14] [.pointer (some ⟨t, 0, none⟩), .int .i64 cap, .pointer (some ⟨b, 7, none⟩), .int .i64 cap, .bool true, .bool true, .bool true, .bool true, .bool true] [true, true, true, true, true, true, true, true, true] (by kernel_rfl) (by kernel_rfl) (by kernel_rfl) rfl rfl (by decide) rfl rfl rfl ?_ ?_
                        · intro i o a w9 ho hw f g hkp K hK
                          have hi : i < 9 := by have := (List.getElem?_eq_some_iff.1 ho).1; simpa using this
                          have hcs : i = 0 ∨ i = 1 ∨ i = 2 ∨ i = 3 ∨ i = 4 ∨ i = 5 ∨ i = 6 ∨ i = 7 ∨ i = 8 := by omega
                          clear hi
                          rcases hcs with rfl | rfl | rfl | rfl | rfl | rfl | rfl | rfl | rfl
                          all_goals
                            first | simp only [List.getElem?_cons_zero, List.getElem?_cons_succ, Option.some.injEq] at ho | replace ho := Option.some.inj ho
                            subst ho
                          · have t15 : a.tmps[15]?.getD undef = .pointer (some ⟨t, 0, none⟩) := g 15 (by decide)
                            unfold Oper.wp
                            simp only [execOp, Act.eval, Array.getD_eq_getD_getElem?]
                            go_simp
                            exact hK _ _ (Kp.refl _) rfl
                          · have t167 : a.tmps[167]?.getD undef = .pointer (some ⟨t, 0, none⟩) := f 0 rfl
                            unfold Oper.wp
                            simp only [execOp, Act.eval, Array.getD_eq_getD_getElem?]
                            go_simp
                            refine (len_any_ B t FA T2 w9 (HFA.out.keep hkp)).mono ?_
                            rintro e wb ⟨rfl, hwb⟩
                            rw [hwb, HLN.out]
                            have hKc := Kp.refl w9
                            exact hK _ _ hKc rfl
                          · have t7 : a.tmps[7]?.getD undef = .pointer (some ⟨b, 0, none⟩) := g 7 (by decide)
                            unfold Oper.wp
                            simp only [execOp, Act.eval, Array.getD_eq_getD_getElem?]
                            go_simp
                            exact hK _ _ (Kp.refl _) rfl
                          · have t169 : a.tmps[169]?.getD undef = .pointer (some ⟨b, 7, none⟩) := f 2 rfl
                            have s7 : w9.cell? ⟨b, 7, none⟩ = some (.int .i64 cap) := by have := ((HBC.out.keep hkp).cell 7); rw [← HCP.out]; exact this
                            unfold Oper.wp
                            simp only [execOp, Act.eval, Array.getD_eq_getD_getElem?]
                            go_simp
                            exact hK _ _ (Kp.refl _) rfl
                          · have t168 : a.tmps[168]?.getD undef = .int .i64 cap := f 1 rfl
                            have t170 : a.tmps[170]?.getD undef = .int .i64 cap := f 3 rfl
                            unfold Oper.wp
                            simp only [execOp, Act.eval, Array.getD_eq_getD_getElem?]
                            go_simp
                            exact hK _ _ (Kp.refl _) rfl
                          · have t171 : a.tmps[171]?.getD undef = .bool true := f 4 rfl
                            unfold Oper.wp
                            simp only [execOp, Act.eval, Array.getD_eq_getD_getElem?]
                            go_simp
                            exact hK _ _ (Kp.refl _) rfl
                          · unfold Oper.wp
                            simp only [execOp, Act.eval, Array.getD_eq_getD_getElem?]
                            go_simp
                            refine (works_any w9 (HCW.out.keep hkp) (HFW.out.keep hkp)).mono ?_
                            rintro e wb ⟨rfl, hKc⟩
                            exact hK _ _ hKc rfl
                          · have t172 : a.tmps[172]?.getD undef = .bool true := f 5 rfl
                            have t173 : a.tmps[173]?.getD undef = .bool true := f 6 rfl
                            unfold Oper.wp
                            simp only [execOp, Act.eval, Array.getD_eq_getD_getElem?]
                            go_simp
                            exact hK _ _ (Kp.refl _) rfl
                          · have t174 : a.tmps[174]?.getD undef = .bool true := f 7 rfl
                            unfold Oper.wp
                            simp only [execOp, Act.eval, Array.getD_eq_getD_getElem?]
                            go_simp
                            exact hK _ _ (Kp.refl _) rfl
                        intro w9 KV
                        (try simp only [Exit.then])
                        simp only [wrS, List.zip_cons_cons, List.zip_nil_right, List.foldl_cons, List.foldl_nil, List.setIfInBounds_toArray, List.set_cons_zero, List.set_cons_succ]
                        have KV9 := Lib.hid KV
                        go_wp2_with fail
                        go_ret
                        exact ⟨rfl, HS7.out.kp.trans KV9.out⟩
                      | false =>
                        have hno := of_decide_eq_false hany
                        obtain ⟨hFI, hGH, hTU⟩ := HAF.out.2 (fun z => hno (.inl z)) (fun z => hno (.inr (.inl z))) (fun z => hno (.inr (.inr (.inl z)))) (fun z => hno (.inr (.inr (.inr z))))
                        have eFI : (F == I) = true := by simp [hFI]
                        have eGH : (G == Hq) = true := by simp [hGH]
                        have HST := Lib.hid (show sameT T2 U2 = true from sameT_iff.2 hTU)
                        clear hany hno hFI hGH hTU
                        go_wp2_with fail
                        refine (num_any F _).mono ?_
                        rintro e w5 ⟨rfl, hw5⟩
                        rw [← hw5]
                        clear hw5 w5
                        go_wp2_with fail
                        refine (num_any I _).mono ?_
                        rintro e w5 ⟨rfl, hw5⟩
                        rw [← hw5]
                        clear hw5 w5
                        go_wp2_with fail
                        refine (num_any G _).mono ?_
                        rintro e w5 ⟨rfl, hw5⟩
                        rw [← hw5]
                        clear hw5 w5
                        go_wp2_with fail
                        refine (num_any Hq _).mono ?_
                        rintro e w5 ⟨rfl, hw5⟩
                        rw [← hw5]
                        clear hw5 w5
                        go_wp2_with fail
                        refine (same_any_ B CU t u FA FB T2 U2 W7 HFA.out HFB.out (by have := HLA.out; omega) (by have := HLB.out; omega)).mono ?_
                        rintro e W8 ⟨rfl, K8⟩
                        rw [HST.out]
                        go_wp2_with fail
                        refine (works_any _ (HCW.out.keep K8) (HFW.out.keep K8)).mono ?_
                        rintro e W9 ⟨rfl, K9'⟩
                        go_wp2_with fail
                        go_ret
                        exact ⟨rfl, (HS7.out.kp.trans K8).trans K9'⟩
    · have d6 : decide (25 < (l.length : Int)) = true := decide_eq_true (by omega)
      clear h6
      go_enter Tryz.func6, Tryz.ntmps6
      go_wp2_with fail
      refine (few_any c A _ m _).mono ?_
      rintro e w1 ⟨rfl, K1⟩
      rw [df]
      go_wp2_with fail
      refine (works_any _ (HC.out.keep (HKW.out.trans K1)) (HF.out.keep (HKW.out.trans K1))).mono ?_
      rintro e w5 ⟨rfl, K5⟩
      go_wp2_with fail
      go_ret
      exact ⟨rfl, (HKW.out.trans K1).trans K5⟩
  · have df : decide ((c.own.length : Int) ≤ 20) = false := decide_eq_false hf
    clear hf
    go_enter Tryz.func6, Tryz.ntmps6
    go_wp2_with fail
    refine (few_any c A _ m _).mono ?_
    rintro e w1 ⟨rfl, K1⟩
    rw [df]
    go_wp2_with fail
    refine (works_any _ (HC.out.keep (HKW.out.trans K1)) (HF.out.keep (HKW.out.trans K1))).mono ?_
    rintro e w5 ⟨rfl, K5⟩
    go_wp2_with fail
    go_ret
    exact ⟨rfl, (HKW.out.trans K1).trans K5⟩
end Go.Proofs.YtffckpkikdlbpaaGreatDoor
