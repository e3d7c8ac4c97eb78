/- Lemmas and contracts for the theorem of this claim: SoM, AuF, AuG. -/
import Derived.Test.YtgopnfacklmkaaaGreatDoorZwAz
import Derived.Deep.CutBlock
set_option linter.all false
set_option maxHeartbeats 16000000
namespace Go.Proofs.YtgopnfacklmkaaaGreatDoor
section
open Go.RowKit
set_option maxRecDepth 100000 in
theorem viF (w : World) (a l b k : Int) : (binOp .neq 39 (.agg #[.int .u32 a, .int .i64 l]) (.agg #[.int .u32 b, .int .i64 k])).run Tryz.prog w = .ok (.bool (!(a == b && l == k))) w := by
 rw [run_neq_struct, run_equalIn_agg w 9999 _ _ _ Tryz.underlying39 (by kernel_rfl)]
 simp [Op.eqFields, part, go_sem, Tryz.underlying3, Tryz.underlying37]
 by_cases h1 : a = b <;> by_cases h2 : l = k <;> simp [h1, h2]
theorem vkT (p q : PI) : ((p.a : Int) == (q.a : Int) && p.l == q.l) = decide (p = q) := by
 rw [Bool.eq_iff_iff]
 simp only [Bool.and_eq_true, beq_iff_eq, decide_eq_true_eq]
 exact ⟨fun h => PI.ext' (by omega) h.2, fun h => by subst h; exact ⟨rfl, rfl⟩⟩
theorem vdM {ps qs : List PI} {k : Nat} (h1 : k < ps.length) (h2 : k < qs.length) (h : ps.take k = qs.take k) (e : ps[k] = qs[k]) : ps.take (k + 1) = qs.take (k + 1) := by
 rw [List.take_succ_eq_append_getElem h1, List.take_succ_eq_append_getElem h2, h, e]
set_option maxRecDepth 100000 in
theorem vku (A B : Option Addr) (c d : Nat) (ps qs : List PI) (w : World) (hR : Rd w 2 PI.enc A ps) (hQ : Rd w 2 PI.enc B qs) (hn : ps.length ≤ 1000000) (hn2 : qs.length ≤ 1000000) :
  Calls Tryz.prog 100 #[.slice A ps.length c, .slice B qs.length d] w fun e w' => e = .returned (.bool (decide (ps = qs))) ∧ Kp w w' := by
 by_cases hl : ps.length = qs.length
 ·have hln : ((ps.length : Int) != (qs.length : Int)) = false := by simp [hl]
  have hle : ps.length = qs.length := hl
  have HLE := Lib.hid hle
  have HR := Lib.hid hR
  have HQ := Lib.hid hQ
  clear hl hle hR hQ
  go_enter Tryz.func100, Tryz.ntmps100
  go_wp2_with fail
  go_loopw [13] (fun i wr => ∃ k : Nat, k ≤ ps.length ∧ i = .int .i64 k ∧ Hid (ps.take k = qs.take k) ∧ Kp w wr) (fun i _ => ps.length - (intOf i).toNat)
  case atStart => exact ⟨0, Nat.zero_le _, rfl, Lib.hid rfl, Kp.refl _⟩
  case round =>
   obtain ⟨k, hk, rfl, hall, hK⟩ := hrel
   by_cases hlt : k < ps.length
   ·have hlt2 : k < qs.length := by have := HLE.out; omega
    have hgi : (k : Int) < (ps.length : Int) := by omega
    have hgj : (k : Int) < (qs.length : Int) := by omega
    have hg0 : (0 : Int) ≤ (k : Int) := by omega
    obtain ⟨b, off, rfl, c0, c1⟩ := pi_at (HR.out.keep hK) hlt
    obtain ⟨b', off', rfl, d0, d1⟩ := pi_at (HQ.out.keep hK) hlt2
    have hne := fun u => viF u (ps[k].a : Int) ps[k].l (qs[k].a : Int) qs[k].l
    simp only [vkT] at hne
    by_cases he : ps[k] = qs[k]
    ·rw [decide_eq_true he] at hne
     have H := Lib.hid (vdM hlt hlt2 hall.out he)
     clear he
     go_wp2_with fail
     go_quiet (fail)
     go_wp2_with fail
     go_roundw
     case rel => exact ⟨k + 1, by omega, by go_num, H, hK.drewN _⟩
     case measure => simp [intOf]; omega
    ·rw [decide_eq_false he] at hne
     have H := Lib.hid (show decide (ps = qs) = false from decide_eq_false (fun e => he (by subst e; rfl)))
     clear he
     go_wp2_with fail
     go_quiet (fail)
     go_wp2_with fail
     go_ret
     exact ⟨by rw [H.out] <;> rfl, hK.drewN _⟩
   ·obtain rfl : k = ps.length := by omega
    have H := Lib.hid (show decide (ps = qs) = true from decide_eq_true (by
     have h1 := hall.out
     rwa [List.take_length, HLE.out, List.take_length] at h1))
    go_wp2_with fail
    go_ret
    exact ⟨by rw [H.out] <;> rfl, hK⟩
 ·have hln : ((ps.length : Int) != (qs.length : Int)) = true := by simp; omega
  have H := Lib.hid (show decide (ps = qs) = false from decide_eq_false (fun e => hl (by rw [e])))
  clear hl hR hQ
  go_enter Tryz.func100, Tryz.ntmps100
  go_wp2_with fail
  go_ret
  exact ⟨by rw [H.out] <;> rfl, Kp.refl _⟩
end

section
open Go.RowKit Go.Maps
attribute [local go_sem] Oper.semAt_some
def goodE (T : Tb) (fc : Int) (l : List Nat) : Bool := (lookE T fc l == 0) && respB (decD l).1 (decD l).2.2
def fullE (T : Tb) (fc : Int) (xs : List (Option Addr × Nat × List Nat)) : Bool := xs.all (fun x => goodE T fc x.2.2) && decide (toldL xs = T.l.map (·.p))
set_option maxRecDepth 100000 in
theorem vbE (p0 p1 : Value) (w : World) :
  CallsD Tryz.prog 94 #[p0, p1] .returning w fun en u' w' => en = .returned (.tuple #[]) ∧ u' = .returning ∧ Kp w w' := by
 have hty := vhj
 refine vah _ _ vcm Tryz.func94 rfl rfl rfl ?_
 simp only [Tryz.ntmps94, Act.put, List.size_toArray, List.length_cons, List.length_nil, Nat.reduceAdd, Nat.reduceSub, Array.replicate_succ, Array.replicate_zero, List.push_toArray, List.append_toArray, List.nil_append, List.cons_append]
 go_wp2_with fail
 go_end0
 exact ⟨rfl, trivial, (Kp.refl _).alloc _⟩
set_option maxRecDepth 100000 in
theorem veE (B t : Nat) (F : List Nat) (T : Tb) (fc : Int) (A : Option Addr) (m : Nat) (xs : List (Option Addr × Nat × List Nat)) (w : World) (hT : TabM w B t F T) (hn : T.c.own.length ≤ 1000000) (hR : Rd w 1 btE A xs) (hB : ∀ x ∈ xs, ByS w x.1 x.2.1 x.2.2) (hx : xs.length ≤ 20) :
  Calls Tryz.prog 38 #[lkP t, .int .i64 fc, .slice A xs.length m] w fun r w' => r = .returned (.tuple #[.bool (fullE T fc xs), .int .i64 0]) ∧ Kp w w' := by
 obtain ⟨b, hb⟩ : ∃ b, w.heap.size = b := ⟨_, rfl⟩
 obtain ⟨W, hW, kW, B0, B1⟩ := Blk.al2 hb #[.bool false] 4 #[.int .i64 0] 44
 have hlo : ∀ x ∈ F, x < w.heap.size := fun x hx => (hT.lo x hx).2
 have hbW : b + 1 < W.heap.size := B1.lt
 have HL := Lib.hid hlo
 have hTn : T.l.length ≤ 900000 := by obtain ⟨_, _, _, _, _, _, _, X⟩ := hT; exact X.n
 have HTT := Lib.hid (hT.keep kW)
 have HR := Lib.hid (hR.keep kW)
 have HBB : Hid (∀ x ∈ xs, ByS W x.1 x.2.1 x.2.2) := Lib.hid (fun x hx => (hB x hx).keep kW)
 have HKW := Lib.hid kW
 have HB0 := Lib.hid B0
 have HB1 := Lib.hid B1
 clear hT hB hR hlo B0 B1 kW
 refine vaC Tryz.func38 rfl ?_
 simp only [Tryz.ntmps38, List.size_toArray, List.length_cons, List.length_nil, Nat.reduceAdd, Nat.reduceSub, Array.replicate_succ, Array.replicate_zero, List.push_toArray, List.append_toArray, List.nil_append, List.cons_append]
 go_wp2_with fail
 refine (viP B t F T fc W HTT.out hn).mono ?_
 rintro r w1 ⟨k, rfl, hk, hL1, K1⟩
 have hkF : k ∉ F := fun z => by have := HL.out k z; have := HKW.out.size; omega
 have HKF := Lib.hid hkF
 have S0 : Hid (∃ c A2 m2 es er, LkM w1 k t fc c A2 m2 es er ∧ Only [k] w1 w1) := Lib.hid ⟨_, _, _, _, _, hL1, Only.refl _ _⟩
 have HLB := Lib.hid hL1.bk
 have HT1 := Lib.hid (HTT.out.keep K1)
 have HK1 := Lib.hid K1
 have HSTAY : Hid (∀ V, Only [k] w1 V → Kp W V ∧ TabM V B t F T) := Lib.hid (fun V hO => ⟨hO.kp HK1.out (fun x hx => by simp only [List.mem_cons, List.not_mem_nil, or_false] at hx; omega), HT1.out.turn hO (fun x hx => by
  simp only [List.mem_cons, List.not_mem_nil, or_false] at hx
  subst hx
  exact ⟨hkF, _, _, HLB.out, by decide⟩)⟩)
 have HFIN : Hid (∀ (V : World) (x : Bool) (Q : World), Kp W V → ((V.setCell ⟨b, 0, none⟩ (.bool x)).setCell ⟨b + 1, 0, none⟩ (.int .i64 0)) = Q → Blk Q b 4 #[.bool x] ∧ Blk Q (b + 1) 44 #[.int .i64 0] ∧ Kp w Q) := Lib.hid (fun V x Q hV hQ => by
  subst hQ
  exact ⟨((HB0.out.keep hV).set_ 0 _).far (p := ⟨b + 1, 0, none⟩) (by show b ≠ b + 1; omega) _, ((HB1.out.keep hV).far (p := ⟨b, 0, none⟩) (by show b + 1 ≠ b; omega) _).set_ 0 _, ((HKW.out.trans hV).setCell (p := ⟨b, 0, none⟩) (by show w.heap.size ≤ b; omega) _).setCell (p := ⟨b + 1, 0, none⟩) (by show w.heap.size ≤ b + 1; omega) _⟩)
 clear hL1 K1 hkF hW
 go_upto_block 0 with (fail)
 refine wp_block ?_
 go_loopw [10, 21] (fun _ i wr => ∃ j : Nat, j ≤ xs.length ∧ i = .int .i64 j ∧ Hid ((xs.take j).all (fun x => goodE T fc x.2.2) = true) ∧ Hid (∃ c A2 m2 es er, LkM wr k t fc c A2 m2 es er ∧ Only [k] w1 wr)) (fun _ i _ => xs.length - (intOf i).toNat)
 case atStart => exact ⟨0, Nat.zero_le _, rfl, by rw [List.take_zero]; exact Lib.hid rfl, S0⟩
 case round =>
  obtain ⟨j, hj, rfl, HG, HS⟩ := hrel
  have HKR : Hid (Kp W wr ∧ TabM wr B t F T) := by obtain ⟨_, _, _, _, _, _, hO⟩ := HS.out; exact Lib.hid (HSTAY.out wr hO)
  by_cases hlt : j < xs.length
  ·have hj1 : (j : Int) < (xs.length : Int) := by omega
   have hj0 : (0 : Int) ≤ (j : Int) := by omega
   obtain ⟨g, off, hA, x0⟩ := bt_at (HR.out.keep HKR.out.1) hlt
   subst hA
   have hby := (HBB.out _ (List.getElem_mem hlt)).keep HKR.out.1
   have htk : (xs.take (j + 1)).all (fun x => goodE T fc x.2.2) = ((xs.take j).all (fun x => goodE T fc x.2.2) && goodE T fc xs[j].2.2) := by
    rw [List.take_succ_eq_append_getElem hlt, List.all_append]; simp
   have hno : goodE T fc xs[j].2.2 = false → fullE T fc xs = false := fun h => by
    unfold fullE
    rw [show xs.all (fun x => goodE T fc x.2.2) = false from List.all_eq_false.2 ⟨_, List.getElem_mem hlt, by simp [h]⟩]
    rfl
   obtain ⟨x, hx⟩ : ∃ x, xs[j] = x := ⟨_, rfl⟩
   rw [hx] at x0 hby htk hno
   obtain ⟨c, A2, m2, es, er, hLk, hOk⟩ := HS.out
   have hwr := vdL k t fc c er A2 m2 es B F T x.1 x.2.1 x.2.2 wr hLk HKR.out.2 HKF.out hby
   have HOK := Lib.hid hOk
   have HTK := Lib.hid htk
   have HNO := Lib.hid hno
   rw [show fltG (ruB T fc (decD x.2.2).1 (decD x.2.2).2.2 (decD x.2.2).2.1) = lookE T fc x.2.2 from rfl] at hwr
   have HWR := Lib.hid hwr
   have HGD : Hid (goodE T fc x.2.2 = ((lookE T fc x.2.2 == 0) && respB (decD x.2.2).1 (decD x.2.2).2.2)) := Lib.hid rfl
   obtain ⟨z, hz⟩ : ∃ z, lookE T fc x.2.2 = z := ⟨_, rfl⟩
   rw [hz] at HWR HGD
   obtain ⟨q, hq⟩ : ∃ q, respB (decD x.2.2).1 (decD x.2.2).2.2 = q := ⟨_, rfl⟩
   rw [hq] at HGD
   have HQ := Lib.hid hq
   clear hx hby htk hno hLk hOk hwr hz hq
   by_cases hz0 : z = 0
   ·subst hz0
    cases q
    ·go_upto_region 7 with (first | (go_at_call 93; refine HWR.out.mono ?_; rintro r w2 ⟨A3, m3, rfl, hL3, hO3⟩; have HL3 := Lib.hid hL3; have HO3 := Lib.hid hO3; clear hL3 hO3 x0) | (go_at_call 95; refine (vbs k t fc _ _ A3 m3 _ w2 HL3.out).mono ?_; rintro r w4 ⟨rfl, hw4⟩; rw [hw4]; clear hw4 w4; rw [HQ.out]))
     have k2 := (HSTAY.out w2 (HOK.out.trans HO3.out)).1
     have E0 := HB0.out.keep k2
     have E1 := HB1.out.keep k2
     have u0 := Blk.f E0 rfl
     have f0 := Blk.frozen E0
     have u1 := Blk.f E1 rfl
     have f1 := Blk.frozen E1
     obtain ⟨Q, hQ⟩ : ∃ Q, ((w2.setCell ⟨b, 0, none⟩ (.bool false)).setCell ⟨b + 1, 0, none⟩ (.int .i64 0)) = Q := ⟨_, rfl⟩
     obtain ⟨Q0, Q1, KQ⟩ := HFIN.out w2 false Q k2 hQ
     have HFA := Lib.hid (HNO.out (by rw [HGD.out]; rfl))
     clear E0 E1 k2
     go_wp2_with fail
     refine ⟨[], _, rfl, ?_⟩
     show Leaves _ _ _ _ _ _ _
     refine leaves_cons (f := 94) (args := #[.pointer (some ⟨b, 0, none⟩), .pointer (some ⟨b + 1, 0, none⟩)]) (by simp) (by simp [go_sem]) ?_
     refine (vbE _ _ _).mono ?_
     rintro e u' wz ⟨rfl, rfl, KZ⟩
     have q0 : wz.cell? ⟨b, 0, none⟩ = some (.bool false) := (Q0.keep KZ).cell 0
     have q1 : wz.cell? ⟨b + 1, 0, none⟩ = some (.int .i64 0) := (Q1.keep KZ).cell 0
     show Leaves _ _ _ _ [] .returning _
     exact ⟨.tuple #[.bool false, .int .i64 0], by simp [results, Tryz.results38, go_sem, q0, q1], by rw [HFA.out], KQ.trans KZ⟩
    ·go_wp2_with (first | (go_at_call 93; refine HWR.out.mono ?_; rintro r w2 ⟨A3, m3, rfl, hL3, hO3⟩; have HL3 := Lib.hid hL3; have HO3 := Lib.hid hO3; clear hL3 hO3 x0) | (go_at_call 95; refine (vbs k t fc _ _ A3 m3 _ w2 HL3.out).mono ?_; rintro r w4 ⟨rfl, hw4⟩; rw [hw4]; clear hw4 w4; rw [HQ.out]))
     go_roundw
     case rel => exact ⟨j + 1, by omega, by go_num, Lib.hid (by rw [HTK.out, HG.out, HGD.out]; rfl), Lib.hid ⟨_, _, _, _, _, HL3.out, HOK.out.trans HO3.out⟩⟩
     case measure => simp [intOf]; omega
   ·have hzn : (z != 0) = true := by simpa using hz0
    have HZ : Hid (goodE T fc x.2.2 = false) := Lib.hid (by rw [HGD.out, show (z == 0) = false by simpa using hz0]; rfl)
    clear hz0
    go_upto_region 7 with (first | (go_at_call 93; refine HWR.out.mono ?_; rintro r w2 ⟨A3, m3, rfl, hL3, hO3⟩; have HL3 := Lib.hid hL3; have HO3 := Lib.hid hO3; clear hL3 hO3 x0))
    have k2 := (HSTAY.out w2 (HOK.out.trans HO3.out)).1
    have E0 := HB0.out.keep k2
    have E1 := HB1.out.keep k2
    have u0 := Blk.f E0 rfl
    have f0 := Blk.frozen E0
    have u1 := Blk.f E1 rfl
    have f1 := Blk.frozen E1
    obtain ⟨Q, hQ⟩ : ∃ Q, ((w2.setCell ⟨b, 0, none⟩ (.bool false)).setCell ⟨b + 1, 0, none⟩ (.int .i64 0)) = Q := ⟨_, rfl⟩
    obtain ⟨Q0, Q1, KQ⟩ := HFIN.out w2 false Q k2 hQ
    have HFA := Lib.hid (HNO.out HZ.out)
    clear E0 E1 k2
    go_wp2_with fail
    refine ⟨[], _, rfl, ?_⟩
    show Leaves _ _ _ _ _ _ _
    refine leaves_cons (f := 94) (args := #[.pointer (some ⟨b, 0, none⟩), .pointer (some ⟨b + 1, 0, none⟩)]) (by simp) (by simp [go_sem]) ?_
    refine (vbE _ _ _).mono ?_
    rintro e u' wz ⟨rfl, rfl, KZ⟩
    have q0 : wz.cell? ⟨b, 0, none⟩ = some (.bool false) := (Q0.keep KZ).cell 0
    have q1 : wz.cell? ⟨b + 1, 0, none⟩ = some (.int .i64 0) := (Q1.keep KZ).cell 0
    show Leaves _ _ _ _ [] .returning _
    exact ⟨.tuple #[.bool false, .int .i64 0], by simp [results, Tryz.results38, go_sem, q0, q1], by rw [HFA.out], KQ.trans KZ⟩
  ·obtain rfl : j = xs.length := by omega
   have hall := HG.out
   rw [List.take_length] at hall
   have HALL : Hid (fullE T fc xs = decide (toldL xs = T.l.map (·.p))) := Lib.hid (by unfold fullE; rw [hall]; rfl)
   have hln := vhl xs (fun x hx => (HBB.out x hx).n)
   have HGA := Lib.hid (vhm A m xs wr (HR.out.keep HKR.out.1) (fun x hx => (HBB.out x hx).keep HKR.out.1) (by omega))
   clear hall
   go_upto_region 10 with (first | (go_at_call 96; refine HGA.out.mono ?_; rintro r w3 ⟨A3, m3, rfl, hO3, K3⟩))
   obtain ⟨b2, hb2⟩ : ∃ b2, w3.heap.size = b2 := ⟨_, rfl⟩
   obtain ⟨V, hV, kV, BV⟩ := Blk.al1 hb2 #[.slice none 0 0] 47
   have HAL := Lib.hid (vkr B t F T V ((HKR.out.2.keep K3).keep kV))
   unfold AllP at HAL
   have HO3 := Lib.hid (hO3.keep kV)
   have hA3 : Hid (∀ a, A3 = some a → a.block < b2) := Lib.hid (fun a ha => by have := World.ownsRow.lt hO3 a.block (by rw [ha]; rfl); omega)
   have HKV := Lib.hid (HKR.out.1.trans (K3.trans kV))
   have HBV := Lib.hid BV
   have hbV := BV.lt
   have hWV := HKV.out.size
   clear hO3 kV BV
   go_wp2_with fail
   refine HAL.out.mono ?_
   rintro r w4 ⟨bx, A4, c4, rfl, hM4, K4, hbx, hA4⟩
   obtain ⟨n1, hn1⟩ : ∃ n1, w4.heap.size = n1 := ⟨_, rfl⟩
   have hVn : V.heap.size ≤ n1 := by have := K4.size; omega
   have hbn : b2 < n1 := by omega
   obtain ⟨ps, hps⟩ : ∃ ps, T.l.map (·.p) = ps := ⟨_, rfl⟩
   have hpl : ps.length = T.l.length := by rw [← hps, List.length_map]
   have HIT := Lib.hid (vgX bx A4 c4 T.l hTn)
   have I0 : Hid (GthI b2 n1 ps w4 0 w4) := Lib.hid ⟨_, HBV.out.keep K4, by rw [List.take_zero]; exact Own.nil _ _ _ _ _, Only.refl _ _⟩
   have HMI : Hid (∀ k V, GthI b2 n1 ps w4 k V → AllM bx A4 c4 T.l V) := Lib.hid (fun k V h => by
    obtain ⟨v, h0, h1, h2⟩ := h
    exact hM4.only h2 (by simp; omega) (fun a ha => by have := hA4 a ha; simp; omega))
   have HO4 := Lib.hid (HO3.out.keep K4)
   have HK4 := Lib.hid (HKV.out.trans K4)
   have HPS := Lib.hid hps
   have HPL := Lib.hid hpl
   rw [hps] at HALL
   clear hM4 hA4 K4 hV hps hpl
   unfold allV
   go_wp2_with fail
   refine vaP (N := T.l.length) rfl vgV HIT.out (fun _ _ => rfl) (GthI b2 n1 ps w4) (fun _ _ => False) (GthI b2 n1 ps w4 T.l.length) ?_ (fun _ _ _ h => h.elim) HMI.out I0.out (fun _ h => h) (fun _ _ _ _ h => h.elim) ?_ ?_
   ·intro q V1 V2 h hO
    rw [hn1] at hO
    exact h.turn hO hn1 hbn
   ·rintro lp q V1 hq h hsV
    rw [hn1] at hsV
    rw [vgW hq]
    obtain ⟨r, hr⟩ : ∃ r, T.l[q] = r := ⟨_, rfl⟩
    have hkp : q < ps.length := by rw [HPL.out]; exact hq
    have HPK : Hid (ps[q] = r.p) := Lib.hid (by rw [← hr]; simp [← HPS.out])
    rw [hr]
    have HBX := Lib.hid (Blk.new V1 52 (roC r))
    have HJ := Lib.hid (h.keep ((Kp.refl V1).alloc (.cells (roC r) 52)))
    clear h hr
    gi_wp2_with fail
    refine ⟨⟨by rw [hn1]; exact Below.heap_alloc V1 _ _ (by omega), by rw [hn1]; exact Below.heap_alloc V1 _ _ (by omega)⟩, (fun V9 => GthI b2 n1 ps w4 q V9 ∧ Blk V9 V1.heap.size 52 (roC r)), ⟨HJ.out, HBX.out⟩, ?_, ?_⟩
    ·rintro V8 V9 ⟨j1, j2⟩ hO
     rw [hn1] at hO
     exact ⟨j1.turn hO hn1 hbn, j2.only hO (by simp; omega)⟩
    rintro U ⟨⟨v, u0, u1, u2⟩, j2⟩ hU
    rw [hn1] at hU
    have y := Blk.f j2 rfl
    have x0 := Blk.f u0 rfl
    have HU0 := Lib.hid u0
    have HU1 := Lib.hid u1
    have HU2 := Lib.hid u2
    have hlen : (ps.take q).length = q := by rw [List.length_take]; omega
    obtain ⟨p, hp⟩ : ∃ p, r.p = p := ⟨_, rfl⟩
    rw [hp] at HPK
    have hy0 : U.cell? ⟨V1.heap.size, 0, none⟩ = some (.int .u32 (p.a : Int)) := by rw [← hp]; exact y 0
    have hy1 : U.cell? ⟨V1.heap.size, 1, none⟩ = some (.int .i64 p.l) := by rw [← hp]; exact y 1
    have hbase : n1 + 2 ≤ U.heap.size := by omega
    have hfit : ((ps.take q).length + 1) * (16 + 1) ≤ 140737488355328 := by rw [hlen]; omega
    clear u0 u1 u2 j2 y hp
    refine wpIn_block ?_
    gi_wp2_with (gi_at_builtin; go_must (refine vbt EPfx PI.len PI.one rfl _ _ rfl p rfl HU1.out hbase rfl rfl rfl hfit ?_); intro v5 W5 hown5 hg5 hob5; obtain ⟨A5, c5, rfl⟩ := hown5.form1; have B5 := (HU0.out.grown hg5 (HU1.out.ne (by omega))); have zz := Blk.frozen B5; have yy := Blk.f B5 rfl; have HG5 := Lib.hid hg5; have HO5 := Lib.hid hown5; clear hg5 hown5 hob5)
    have HO6 := HO5.out
    rw [hlen] at HO6
    exact GthI.push HU0.out HU1.out HU2.out (Kp.refl _) HG5.out HO6 hkp HPK.out hn1 hbn hU
   ·rintro V1 ⟨v, h0, h1, h2⟩ hd
    rw [hn1] at hd
    rw [List.take_of_length_le (by rw [HPL.out]; omega)] at h1
    obtain ⟨A5, c5, hv⟩ := h1.form
    subst hv
    have x0 := Blk.f h0 rfl
    have HD := Lib.hid hd
    have HKW1 : Hid (Kp W V1) := Lib.hid (h2.kp HK4.out (fun x hx => by simp only [List.mem_cons, List.not_mem_nil, or_false] at hx; have := HKR.out.1.size; have := K3.size; omega))
    have HQ := Lib.hid (vku A3 A5 m3 c5 (toldL xs) ps V1 ((HO4.out.rdAt (by decide) PI.len).onlyB h2 (fun a ha => by have := hA3.out a ha; simp; omega)) (h1.rdAt (by decide) PI.len) (by omega) (by rw [HPL.out]; omega))
    clear h0 h1 h2 hd
    obtain ⟨z, hz⟩ : ∃ z, decide (toldL xs = ps) = z := ⟨_, rfl⟩
    rw [hz] at HQ HALL
    clear hz
    go_wp2_with fail
    refine HQ.out.mono ?_
    rintro r w6 ⟨rfl, K6⟩
    have k2 := HKW1.out.trans K6
    have hd6 : w6.heap[n1]? = some (.deferred (some [])) := (K6.heap (Array.getElem?_eq_some_iff.1 HD.out).1).trans HD.out
    have E0 := HB0.out.keep k2
    have E1 := HB1.out.keep k2
    have u0 := Blk.f E0 rfl
    have f0 := Blk.frozen E0
    have u1 := Blk.f E1 rfl
    have f1 := Blk.frozen E1
    obtain ⟨Q, hQ⟩ : ∃ Q, ((w6.setCell ⟨b, 0, none⟩ (.bool z)).setCell ⟨b + 1, 0, none⟩ (.int .i64 0)) = Q := ⟨_, rfl⟩
    obtain ⟨Q0, Q1, KQ⟩ := HFIN.out w6 z Q k2 hQ
    have hdQ : Q.heap[n1]? = some (.deferred (some [])) := by
     rw [← hQ]
     exact (Below.heap_setCell _ _ _ _ (by show n1 ≠ b + 1; omega)).trans ((Below.heap_setCell _ _ _ _ (by show n1 ≠ b; omega)).trans hd6)
    have HDQ := Lib.hid hdQ
    have HQ0 := Lib.hid Q0
    have HQ1 := Lib.hid Q1
    have HKQ := Lib.hid KQ
    clear E0 E1 k2 hd6 hdQ Q0 Q1 KQ x0
    go_wp2_with fail
    refine ⟨[{ target := .collected n1, args := #[] }], _, rfl, vby HDQ.out (fun W9 hO9 => ?_)⟩
    refine leaves_cons (f := 94) (args := #[.pointer (some ⟨b, 0, none⟩), .pointer (some ⟨b + 1, 0, none⟩)]) (by simp) (by simp [go_sem]) ?_
    refine (vbE _ _ _).mono ?_
    rintro e u' wz ⟨rfl, rfl, KZ⟩
    have q0 : wz.cell? ⟨b, 0, none⟩ = some (.bool z) := ((HQ0.out.only hO9 (by simp; omega)).keep KZ).cell 0
    have q1 : wz.cell? ⟨b + 1, 0, none⟩ = some (.int .i64 0) := ((HQ1.out.only hO9 (by simp; omega)).keep KZ).cell 0
    show Leaves _ _ _ _ [] .returning _
    exact ⟨.tuple #[.bool z, .int .i64 0], by simp [results, Tryz.results38, go_sem, q0, q1], by rw [HALL.out], (hO9.kp HKQ.out (by simp; omega)).trans KZ⟩
theorem veF (n : Int) (w : World) : Calls Tryz.prog 37 #[.int .i64 n] w fun e w' => e = .returned (.int .i64 n) ∧ w = w' := by
 go_enter Tryz.func37, Tryz.ntmps37
 go_wp2_with fail
 go_ret
 exact ⟨rfl, rfl⟩
set_option maxRecDepth 100000 in
theorem vhn (w : World) : Calls Tryz.prog 34 #[.int .u32 1] w fun e w' => e = .returned (.agg #[.int .u32 ((netQ 1).a : Int), .int .i64 (netQ 1).l]) ∧ Kp w w' := by
 have B := Blk.new w 39 #[.int .u32 167837696, .int .i64 16]
 obtain ⟨q0, q1⟩ := Blk.v2 B (.int .u32 167837696) (.int .i64 16) rfl
 go_enter Tryz.func34, Tryz.ntmps34
 go_wp2_with fail
 exact bodyPost_ret (v := .agg #[.int .u32 167837696, .int .i64 16]) (by simp [results, Tryz.results34, go_sem, q0, q1]) rfl ⟨rfl, (Kp.refl w).alloc _⟩
set_option maxRecDepth 100000 in
theorem vdN (w : World) : Calls Tryz.prog 34 #[.int .u32 5] w fun e w' => e = .returned (.agg #[.int .u32 ((netQ 5).a : Int), .int .i64 (netQ 5).l]) ∧ Kp w w' := by
 have B := Blk.new w 39 #[.int .u32 168099840, .int .i64 16]
 obtain ⟨q0, q1⟩ := Blk.v2 B (.int .u32 168099840) (.int .i64 16) rfl
 go_enter Tryz.func34, Tryz.ntmps34
 go_wp2_with fail
 exact bodyPost_ret (v := .agg #[.int .u32 168099840, .int .i64 16]) (by simp [results, Tryz.results34, go_sem, q0, q1]) rfl ⟨rfl, (Kp.refl w).alloc _⟩
set_option maxRecDepth 100000 in
theorem vkU (w : World) : Calls Tryz.prog 34 #[.int .u32 7] w fun e w' => e = .returned (.agg #[.int .u32 ((netQ 7).a : Int), .int .i64 (netQ 7).l]) ∧ Kp w w' := by
 have B := Blk.new w 39 #[.int .u32 168230912, .int .i64 16]
 obtain ⟨q0, q1⟩ := Blk.v2 B (.int .u32 168230912) (.int .i64 16) rfl
 go_enter Tryz.func34, Tryz.ntmps34
 go_wp2_with fail
 exact bodyPost_ret (v := .agg #[.int .u32 168230912, .int .i64 16]) (by simp [results, Tryz.results34, go_sem, q0, q1]) rfl ⟨rfl, (Kp.refl w).alloc _⟩
set_option maxRecDepth 100000 in
theorem vaB (A : Option Addr) (m : Nat) (es : List En) (w : World) (hR : Rd w 6 En.enc A es) (hw : ∀ e ∈ es, e.wf) (ho : es.all okEn = true) (hn : es.length ≤ 1000) : Calls Tryz.prog 35 #[.slice A es.length m] w fun r w' => ∃ v, r = .returned v ∧ Own w' w.heap.size 5 1 byN v (bytesD 2 es) ∧ Kp w w' := by
 have HX := Lib.hid (vej 2 A m es w (by decide) hR hw ho hn)
 clear hR hw
 go_enter Tryz.func35, Tryz.ntmps35
 go_wp2_with fail
 refine HX.out.mono ?_
 rintro r w1 ⟨v, rfl, hO, K⟩
 go_wp2_with fail
 go_ret
 exact ⟨v, rfl, hO, K⟩
theorem ByS.of_own {w : World} {B n c : Nat} {A : Option Addr} {l : List Nat} (h : Own w B 5 1 byN (.slice A n c) l) (hl : ∀ x ∈ l, x < 256) (hn : l.length ≤ 1000000) (hW : WidAt w) : ByS w A c l := by
 refine ⟨h.rdAt (by decide) vaj, hl, ?_, hn, hW⟩
 rcases h.2 with ⟨_, h2⟩ | ⟨g, cap, cur, hv, _, _, h3, _⟩
 ·omega
 ·injection hv with _ _ h4
  omega
def auL : Nat → List Nat
 | 0 => bytesD 2 [oneE (netQ 5) 3]
 | 1 => bytesD 2 [oneE (netQ 5) 16]
 | 2 => bytesD 2 [oneE (netQ 1) 2]
 | 3 => bytesD 2 [oneE (netQ 7) 16]
 | 4 => bytesD 2 []
 | 5 => [1, 2]
 | 6 => bytesD 2 [oneE (netQ 1) 1, oneE (netQ 5) 3]
 | _ => bytesD 2 [oneE (netQ 5) 3]
theorem vbF : lookE auT 0 (auL 0) = 5 ∧ lookE auT 0 (auL 1) = 0 ∧ lookE auT 0 (auL 2) = 6 ∧ lookE auT 0 (auL 3) = 0 ∧ lookE auT 0 (auL 4) = 3 ∧ lookE auT 0 (auL 5) = 1 := by decide +kernel
theorem vho (A B : Option Addr) (m n : Nat) : fullE auT 1 [(A, m, auL 6)] = true ∧ fullE auT 1 [(B, n, auL 7)] = false := ⟨by kernel_rfl, by kernel_rfl⟩
theorem vkV : ∀ k < 8, ∀ x ∈ auL k, x < 256 := by decide +kernel
theorem auL_n : ∀ k < 8, (auL k).length ≤ 1000000 := by decide +kernel
theorem vct : ∀ n ∈ [1, 5, 7], ∀ k ∈ [1, 2, 3, 16], okEn (oneE (netQ n) k) = true ∧ (oneE (netQ n) k).a < 4294967296 ∧ (oneE (netQ n) k).m < 4294967296 ∧ (oneE (netQ n) k).n < 4294967296 ∧ (oneE (netQ n) k).k < 4294967296 := by decide +kernel
end

end Go.Proofs.YtgopnfacklmkaaaGreatDoor
