/- Lemmas and contracts for the theorem of this claim: RqL, Lay14R. -/
import Derived.Test.YtgopnfacklmkaaaGreatDoorZxBf
import Derived.Test.YtgopnfacklmkaaaGreatDoorZxBg
import Derived.LoopN
import Derived.Deep.CutBlock
set_option linter.all false
set_option maxHeartbeats 16000000
namespace Go.Proofs.YtgopnfacklmkaaaGreatDoor
section
open Go.RowKit Go.Maps
attribute [local go_sem] Oper.semAt_some
def RaI (nb : Nat) (Y : World) (v : Int) (C : Prop) (W : World) : Prop := Blk W nb 3 #[.int .i64 v] ∧ Only [nb] Y W ∧ C
theorem RaI.turn {nb n1 : Nat} {Y W W' : World} {v : Int} {C : Prop} (h : RaI nb Y v C W) (hO : Only [n1, n1 + 1] W W') (hn : Y.heap.size = n1) (hb : nb < n1) : RaI nb Y v C W' :=
 ⟨h.1.only hO (by simp; omega), ⟨hO.os.trans h.2.1.os, hO.tape.trans h.2.1.tape, hO.output.trans h.2.1.output, Nat.le_trans h.2.1.size hO.size, fun i hi hx => (hO.block i (Nat.lt_of_lt_of_le hi h.2.1.size) (by simp; omega)).trans (h.2.1.block i hi hx)⟩, h.2.2⟩
theorem RaI.next {nb : Nat} {Y W V : World} {v : Int} {C : Prop} (h : RaI nb Y v C W) (K : Kp W V) (v' : Int) {C' : Prop} (hC : C') : RaI nb Y v' C' (V.setCell ⟨nb, 0, none⟩ (.int .i64 v')) :=
 ⟨by simpa using (h.1.keep K).set_ 0 (.int .i64 v'), (h.2.1.trans (Only.of_kp K)).setCell (p := ⟨nb, 0, none⟩) (.inl (by simp)) _, hC⟩
theorem vil {W : World} {r s : Nat} (hr : W.heap[r]? = some (.deferred (some []))) (hs : W.heap[s]? = some (.deferred (some []))) (hne : r ≠ s) {K : World → Prop} (h : ∀ W', Only [r, s] W W' → K W') : Takes [{ target := .collected r, args := #[] }, { target := .collected s, args := #[] }] W K :=
 ⟨r, rfl, hr, s, rfl, (World.putObj_heap_other (by omega)).trans hs, h _ (((Only.refl [r, s] W).putObj (by simp) _).putObj (by simp) _)⟩
set_option maxRecDepth 100000 in
theorem vjY (w : World) (n a l : Int) : (binOp .neq 41 (.agg #[.int .i64 n, .int .u32 a, .int .i64 l]) (.agg #[.int .i64 n, .int .u32 a, .int .i64 l])).run Tryz.prog w = .ok (.bool false) w := by
 rw [run_neq_struct, run_equalIn_agg w 9999 _ _ _ Tryz.underlying41 (by kernel_rfl)]
 simp [Op.eqFields, part, go_sem, Tryz.underlying3, Tryz.underlying37, Tryz.underlying39]
set_option maxRecDepth 100000 in
theorem vcg (c : Int) (A : Option Addr) (m : Nat) (es : List En) (many : Int) (w : World) (hR : Rd w 6 En.enc A es) (hw : ∀ e ∈ es, e.wf) (hm : -9223372036854775808 ≤ many ∧ many < 9223372036854775808) (hC : CapAt w) (hWd : WidAt w) (hFa : ReFac w) : Calls Tryz.prog 4 #[dgV c A es.length m, .int .i64 many] w fun e w' => e = .returned (.bool true) ∧ Kp w w' := by
 obtain ⟨b, hb⟩ : ∃ b, w.heap.size = b := ⟨_, rfl⟩
 obtain ⟨W, hW, kW, B0, B1, B2⟩ := Blk.al3 hb #[.int .i64 c, .slice A es.length m] 30 #[.int .i64 many] 3 #[.bool false] 4
 have u := Blk.f B0 rfl
 have HB0 := Lib.hid B0
 have HB1 := Lib.hid B1
 have HB2 := Lib.hid B2
 have HK := Lib.hid kW
 have HR := Lib.hid (hR.keep kW)
 have HWF := Lib.hid hw
 have HWK : Hid (∀ V, Kp W V → Calls Tryz.prog 10 #[] V fun e w' => e = .returned (.bool true) ∧ Kp V w') := Lib.hid (fun V hV => vgv V ⟨(kW.trans hV).cell hC.1, (kW.trans hV).cell hC.2⟩ (hWd.keep (kW.trans hV)) (hFa.keep (kW.trans hV)))
 have HWD := Lib.hid (hWd.keep kW)
 have hbW : b + 1 + 1 < W.heap.size := B2.lt
 obtain ⟨hm0, hm1⟩ := hm
 clear hR hw hC hWd hFa B0 B1 B2 kW
 have HFIN : Hid (∀ V, Kp W V → ∃ Q, V.setCell ⟨b + 1 + 1, 0, none⟩ (.bool true) = Q ∧ Blk Q (b + 1 + 1) 4 #[.bool true] ∧ Kp w Q ∧ Only [b + 1 + 1] V Q) := Lib.hid (fun V hV => ⟨_, rfl, (HB2.out.keep hV).set_ 0 (.bool true), (HK.out.trans hV).setCell (p := ⟨b + 1 + 1, 0, none⟩) (by show w.heap.size ≤ b + 1 + 1; omega) _, (Only.refl _ V).setCell (p := ⟨b + 1 + 1, 0, none⟩) (.inl (by simp)) _⟩)
 refine calls_of_wp_marks Tryz.func4 rfl ?_
 simp only [Tryz.ntmps4, List.size_toArray, List.length_cons, List.length_nil, Nat.reduceAdd, Nat.reduceSub, Array.replicate_succ, Array.replicate_zero, List.push_toArray, List.append_toArray, List.nil_append, List.cons_append]
 by_cases h40 : es.length ≤ 40
 rotate_left
 ·have hgt : decide ((40 : Int) < (es.length : Int)) = true := by rw [decide_eq_true_iff]; omega
  clear h40
  go_upto_region 2 with (fail)
  clear hW u
  go_wp2_with fail
  refine (HWK.out W (Kp.refl _)).mono ?_
  rintro e w1 ⟨rfl, K1⟩
  have y := Blk.f (HB2.out.keep K1) rfl
  have f := Blk.frozen (HB2.out.keep K1)
  obtain ⟨Q, hQ, Q0, KQ, _⟩ := HFIN.out w1 K1
  clear K1
  go_wp2_with fail
  have q0 : Q.cell? ⟨b + 1 + 1, 0, none⟩ = some (.bool true) := Q0.cell 0
  refine ⟨.bool true, ?_, rfl, KQ⟩
  simp [results, Tryz.results4, go_sem, q0]
 have hgt : decide ((40 : Int) < (es.length : Int)) = false := by rw [decide_eq_false_iff_not]; omega
 have HRA := Lib.hid (vez c A m es W HR.out HWF.out (by omega))
 unfold RAskP at HRA
 have hxl : (askedL c es).length ≤ 40 := by
  have h1 := vcv es
  unfold askedL
  split
  ·omega
  ·simp
 obtain ⟨xs, hxs⟩ : ∃ xs, askedL c es = xs := ⟨_, rfl⟩
 rw [hxs] at HRA hxl
 have HXS := Lib.hid hxs
 clear hxs
 go_wp2_with fail
 refine HRA.out.mono ?_
 rintro r w1 ⟨Aw, mw, rfl, hO1, K1⟩
 obtain ⟨bw, hbw⟩ : ∃ g, w1.heap.size = g := ⟨_, rfl⟩
 obtain ⟨X1, hX1, kX1, BX1⟩ := Blk.al1 hbw #[.slice Aw xs.length mw] 31
 have HKX := Lib.hid (K1.trans kX1)
 have HRW := Lib.hid ((hO1.rdAt (by decide) vlw).keep kX1)
 have HBW := Lib.hid BX1
 have u1 := Blk.f (HB0.out.keep HKX.out) rfl
 have HAS := vey c A m es X1 (HWD.out.keep HKX.out) (HR.out.keep HKX.out) HWF.out (by omega)
 rw [HXS.out] at HAS
 have HASK := Lib.hid HAS
 clear hO1 K1 kX1 BX1 HAS u hW
 go_wp2_with fail
 refine HASK.out.mono ?_
 rintro r V0 ⟨bx, Ai, mi, rfl, hAM, hbx, hAi, K⟩
 have HKV := Lib.hid (HKX.out.trans K)
 have HAM := Lib.hid hAM
 have HBW0 := Lib.hid (HBW.out.keep K)
 have HRW0 := Lib.hid (HRW.out.keep K)
 have HM1 := Lib.hid (HB1.out.keep HKV.out)
 have hsn := vbl bx
 unfold askV
 have HIT := Lib.hid (vcP bx Ai mi xs (by omega))
 clear hAM K u1 hX1 hAi
 go_upto_block 0 with (fail)
 clear hsn
 obtain ⟨tb0, htb0⟩ : ∃ g, V0.heap.size = g := ⟨_, rfl⟩
 obtain ⟨T0, hT0, kT0, BT0⟩ := Blk.al1 htb0 #[.int .i64 0] 3
 rw [hT0, htb0]
 have HKT0 := Lib.hid kT0
 have HBT0 := Lib.hid BT0
 clear kT0 BT0 hT0
 refine wp_block ?_
 refine wp_loop_rounds 3 ?_
 rw [rounds_succ]
 have t0 := Blk.f HBT0.out rfl
 go_wp2_with fail
 clear t0
 obtain ⟨nb0, hnb0⟩ : ∃ g, T0.heap.size = g := ⟨_, rfl⟩
 obtain ⟨Y0, hY0, kY0, BY0⟩ := Blk.al1 hnb0 #[.int .i64 0] 3
 rw [hY0, hnb0]
 have HKY0 := Lib.hid ((HKT0.out).trans kY0)
 have HTY0 := Lib.hid ((HBT0.out).keep kY0)
 have hny0 := BY0.lt
 obtain ⟨d0, hd0⟩ : ∃ n, Y0.heap.size = n := ⟨_, rfl⟩
 have hnd0 : nb0 < d0 := by omega
 have hVn0 : V0.heap.size ≤ nb0 := by have := (HKT0.out).size; omega
 have HST0 : Hid (∀ V, Only [nb0] Y0 V → Kp V0 V) := Lib.hid (fun V hV => hV.kp HKY0.out (fun x hx => by simp only [List.mem_cons, List.not_mem_nil, or_false] at hx; omega))
 have I0 : Hid (RaI nb0 Y0 ((0 : Nat) : Int) ((0 : Nat) = 0 ∨ ((0 : Nat) : Int) < many) Y0) := Lib.hid ⟨BY0, Only.refl _ _, .inl rfl⟩
 have htn0 : tb0 ≠ nb0 := by have := HBT0.out.lt; omega
 have HXY0 := Lib.hid kY0
 clear kY0 BY0 hY0
 refine vaq (N := xs.length) rfl vbv HIT.out (fun _ _ => rfl) (fun k V => RaI nb0 Y0 (k : Nat) (k = 0 ∨ (k : Int) < many) V) (fun k V => RaI nb0 Y0 (k : Nat) ((k : Int) = max 1 many) V) (fun V => RaI nb0 Y0 (min (xs.length : Int) (max 1 many)) True V) ?_ ?_ (fun _ V h => HAM.out.keep (HST0.out V h.2.1)) I0.out ?_ ?_ ?_ ?_
 ·intro q V1 V2 h hO
  rw [hd0] at hO
  exact h.turn hO hd0 hnd0
 ·intro q V1 V2 h hO
  rw [hd0] at hO
  exact h.turn hO hd0 hnd0
 ·rintro V h
  have e : min (xs.length : Int) (max 1 many) = (xs.length : Int) := by have := h.2.2; omega
  exact ⟨by rw [e]; exact h.1, h.2.1, trivial⟩
 ·rintro q V hq0 hqN h
  have e : min (xs.length : Int) (max 1 many) = (q : Int) := by have := h.2.2; omega
  exact ⟨by rw [e]; exact h.1, h.2.1, trivial⟩
 ·rintro lp k V1 hk h hsV
  rw [hd0] at hsV
  rw [veZ hk]
  obtain ⟨x, hx⟩ : ∃ x, xs[k] = x := ⟨_, rfl⟩
  have HX := Lib.hid hx
  rw [hx]
  have HBX := Lib.hid (Blk.new V1 39 #[.int .u32 (x.1.a : Int), .int .i64 x.1.l])
  have HJ : Hid (RaI nb0 Y0 (k : Nat) (k = 0 ∨ (k : Int) < many) (V1.alloc (.cells #[.int .u32 (x.1.a : Int), .int .i64 x.1.l] 39))) := Lib.hid ⟨h.1.alloc _, h.2.1.alloc _, h.2.2⟩
  clear h hx
  gi_wp2_with fail
  refine ⟨⟨by rw [hd0]; exact Below.heap_alloc V1 _ _ (by omega), by rw [hd0]; exact Below.heap_alloc V1 _ _ (by omega)⟩, (fun V9 => RaI nb0 Y0 (k : Nat) (k = 0 ∨ (k : Int) < many) V9 ∧ Blk V9 V1.heap.size 39 #[.int .u32 (x.1.a : Int), .int .i64 x.1.l]), ⟨HJ.out, HBX.out⟩, ?_, ?_⟩
  ·rintro V8 V9 ⟨j1, j2⟩ hO
   try rw [hd0] at hO
   exact ⟨j1.turn hO hd0 hnd0, j2.only hO (by simp; omega)⟩
  rintro U ⟨j1, j2⟩ hU
  try rw [hd0] at hU
  have HJ1 := Lib.hid j1
  have HJ2 := Lib.hid j2
  have HKU := Lib.hid (HST0.out U j1.2.1)
  have HTU := Lib.hid (HTY0.out.only j1.2.1 (by simpa using htn0))
  obtain ⟨ga, off, hA, x0, x1, x2⟩ := on_at (HRW0.out.keep HKU.out) hk
  rw [HX.out] at x0 x1 x2
  subst hA
  have HC := Lib.hid (And.intro x0 (And.intro x1 x2))
  have hkl : decide (xs.length ≤ k) = false := by rw [decide_eq_false_iff_not]; omega
  have hki : (k : Int) < (xs.length : Int) := by omega
  have hk0 : (0 : Int) ≤ (k : Int) := by omega
  clear j1 j2 x0 x1 x2
  refine wpIn_block ?_
  repeat refine wpIn_seq ?_
  refine vbP [29, 30, 31, 32, 33, 34, 35, 36, 37, 38, 39, 40, 41, 42] [.int .i64 (k : Nat), .slice (some ⟨ga, off, none⟩) xs.length mw, .int .i64 xs.length, .bool false, .bool false, .slice (some ⟨ga, off, none⟩) xs.length mw, .int .i64 (k : Nat), .pointer (some ⟨ga, off + k * 3, none⟩), .agg #[.int .i64 (x.2 : Nat), .int .u32 (x.1.a : Int), .int .i64 x.1.l], .int .i64 (x.2 : Nat), .agg #[.int .u32 (x.1.a : Int), .int .i64 x.1.l], .agg #[.int .i64 (x.2 : Nat), .int .u32 (x.1.a : Int), .int .i64 x.1.l], .bool false, .bool false] [true, true, true, true, true, true, true, true, true, true, true, true, true, true] (by kernel_rfl) (by kernel_rfl) (by kernel_rfl) (vcV (vcV (vax vaH))) (by kernel_rfl) rfl rfl (by decide) rfl rfl rfl ?_ ?_
  ·intro i o a w9 ho hw f g hkp K hK
   have hi : i < 14 := by have := (List.getElem?_eq_some_iff.1 ho).1; simpa using this
   have hcs : i = 0 ∨ i = 1 ∨ i = 2 ∨ i = 3 ∨ i = 4 ∨ i = 5 ∨ i = 6 ∨ i = 7 ∨ i = 8 ∨ i = 9 ∨ i = 10 ∨ i = 11 ∨ i = 12 ∨ i = 13 := by omega
   clear hi
   rcases hcs with rfl | rfl | rfl | rfl | rfl | rfl | rfl | rfl | rfl | rfl | rfl | rfl | rfl | rfl
   all_goals
    first | simp only [List.getElem?_cons_zero, List.getElem?_cons_succ, Option.some.injEq] at ho | replace ho := Option.some.inj ho
    subst ho
   ·have t8 : a.tmps[8]?.getD undef = .pointer (some ⟨nb0, 0, none⟩) := g 8 (by decide)
    have u := Blk.f (HJ1.out.1.keep hkp) rfl
    unfold Oper.wp
    simp only [execOp, Act.eval, Array.getD_eq_getD_getElem?]
    go_simp
    exact hK _ _ (Kp.refl _) rfl
   ·have t5 : a.tmps[5]?.getD undef = .pointer (some ⟨bw, 0, none⟩) := g 5 (by decide)
    have u := Blk.f (HBW0.out.keep (HKU.out.trans hkp)) rfl
    unfold Oper.wp
    simp only [execOp, Act.eval, Array.getD_eq_getD_getElem?]
    go_simp
    exact hK _ _ (Kp.refl _) rfl
   ·have t30 : a.tmps[30]?.getD undef = .slice (some ⟨ga, off, none⟩) xs.length mw := f 1 rfl
    unfold Oper.wp
    simp only [execOp, Act.eval, Array.getD_eq_getD_getElem?]
    go_simp
    exact hK _ _ (Kp.refl _) rfl
   ·have t29 : a.tmps[29]?.getD undef = .int .i64 (k : Nat) := f 0 rfl
    have t31 : a.tmps[31]?.getD undef = .int .i64 xs.length := f 2 rfl
    unfold Oper.wp
    simp only [execOp, Act.eval, Array.getD_eq_getD_getElem?]
    go_simp
    exact hK _ _ (Kp.refl _) rfl
   ·have t32 : a.tmps[32]?.getD undef = .bool false := f 3 rfl
    unfold Oper.wp
    simp only [execOp, Act.eval, Array.getD_eq_getD_getElem?]
    go_simp
    exact hK _ _ (Kp.refl _) rfl
   ·have t5 : a.tmps[5]?.getD undef = .pointer (some ⟨bw, 0, none⟩) := g 5 (by decide)
    have u := Blk.f (HBW0.out.keep (HKU.out.trans hkp)) rfl
    unfold Oper.wp
    simp only [execOp, Act.eval, Array.getD_eq_getD_getElem?]
    go_simp
    exact hK _ _ (Kp.refl _) rfl
   ·have t8 : a.tmps[8]?.getD undef = .pointer (some ⟨nb0, 0, none⟩) := g 8 (by decide)
    have u := Blk.f (HJ1.out.1.keep hkp) rfl
    unfold Oper.wp
    simp only [execOp, Act.eval, Array.getD_eq_getD_getElem?]
    go_simp
    exact hK _ _ (Kp.refl _) rfl
   ·have t34 : a.tmps[34]?.getD undef = .slice (some ⟨ga, off, none⟩) xs.length mw := f 5 rfl
    have t35 : a.tmps[35]?.getD undef = .int .i64 (k : Nat) := f 6 rfl
    unfold Oper.wp
    simp only [execOp, Act.eval, Array.getD_eq_getD_getElem?]
    go_simp
    exact hK _ _ (Kp.refl _) rfl
   ·have t36 : a.tmps[36]?.getD undef = .pointer (some ⟨ga, off + k * 3, none⟩) := f 7 rfl
    have z0 := hkp.cell HC.out.1
    have z1 := hkp.cell HC.out.2.1
    have z2 := hkp.cell HC.out.2.2
    unfold Oper.wp
    simp only [execOp, Act.eval, Array.getD_eq_getD_getElem?]
    go_simp
    exact hK _ _ (Kp.refl _) rfl
   ·have t9 : a.tmps[9]?.getD undef = .int .i64 (x.2 : Nat) := g 9 (by decide)
    unfold Oper.wp
    simp only [execOp, Act.eval, Array.getD_eq_getD_getElem?]
    go_simp
    exact hK _ _ (Kp.refl _) rfl
   ·have t10 : a.tmps[10]?.getD undef = .pointer (some ⟨V1.heap.size, 0, none⟩) := g 10 (by decide)
    have u := Blk.f (HJ2.out.keep hkp) rfl
    unfold Oper.wp
    simp only [execOp, Act.eval, Array.getD_eq_getD_getElem?]
    go_simp
    exact hK _ _ (Kp.refl _) rfl
   ·have t38 : a.tmps[38]?.getD undef = .int .i64 (x.2 : Nat) := f 9 rfl
    have t39 : a.tmps[39]?.getD undef = .agg #[.int .u32 (x.1.a : Int), .int .i64 x.1.l] := f 10 rfl
    unfold Oper.wp
    simp only [execOp, Act.eval, Array.getD_eq_getD_getElem?]
    go_simp
    exact hK _ _ (Kp.refl _) rfl
   ·have t37 : a.tmps[37]?.getD undef = .agg #[.int .i64 (x.2 : Nat), .int .u32 (x.1.a : Int), .int .i64 x.1.l] := f 8 rfl
    have t40 : a.tmps[40]?.getD undef = .agg #[.int .i64 (x.2 : Nat), .int .u32 (x.1.a : Int), .int .i64 x.1.l] := f 11 rfl
    have he9 := vjY w9 (x.2 : Nat) x.1.a x.1.l
    unfold Oper.wp
    simp only [execOp, Act.eval, Array.getD_eq_getD_getElem?]
    go_simp
    exact hK _ _ (Kp.refl _) rfl
   ·have t33 : a.tmps[33]?.getD undef = .bool false := f 4 rfl
    have t41 : a.tmps[41]?.getD undef = .bool false := f 12 rfl
    unfold Oper.wp
    simp only [execOp, Act.eval, Array.getD_eq_getD_getElem?]
    go_simp
    exact hK _ _ (Kp.refl _) rfl
  intro w9 KV
  (try simp only [Exit.then])
  simp only [wrS, List.zip_cons_cons, List.zip_nil_right, List.foldl_cons, List.foldl_nil, List.setIfInBounds_toArray, List.set_cons_zero, List.set_cons_succ]
  have u := Blk.f (HJ1.out.1.keep KV) rfl
  have f := Blk.frozen (HJ1.out.1.keep KV)
  have HKV9 := Lib.hid KV
  have HNX : Hid (∀ C' : Prop, C' → RaI nb0 Y0 ((k + 1 : Nat) : Int) C' (w9.setCell ⟨nb0, 0, none⟩ (.int .i64 ((k : Int) + 1)))) := Lib.hid (fun C' hC' => by
   have h9 := HJ1.out.next KV ((k + 1 : Nat) : Int) hC'
   rw [show ((k + 1 : Nat) : Int) = (k : Int) + 1 from rfl] at h9 ⊢
   exact h9)
  have HKP : Hid (Kept2 Y0 U (w9.setCell ⟨nb0, 0, none⟩ (.int .i64 ((k : Int) + 1)))) := Lib.hid (by
   refine ⟨?_, ?_⟩
   ·rw [hd0]
    exact (Below.heap_setCell _ _ _ _ (by show d0 ≠ nb0; omega)).trans (KV.heap (by omega))
   ·rw [hd0]
    exact (Below.heap_setCell _ _ _ _ (by show d0 + 1 ≠ nb0; omega)).trans (KV.heap (by omega)))
  have HT9 := Lib.hid ((HTU.out.keep KV).far (p := ⟨nb0, 0, none⟩) htn0 (.int .i64 ((k : Int) + 1)))
  have HM9 := Lib.hid ((HM1.out.keep (HKU.out.trans KV)).far (p := ⟨nb0, 0, none⟩) (by have := HM1.out.lt; show b + 1 ≠ nb0; omega) (.int .i64 ((k : Int) + 1)))
  have v7 := Blk.f HT9.out rfl
  have v3 := Blk.f HM9.out rfl
  have v8 := Blk.f (l := [.int .i64 ((k : Int) + 1)]) (HNX.out True trivial).1 rfl
  clear KV
  have hC0 := HJ1.out.2.2
  by_cases hmk : many ≤ (k : Int) + 1
  ·have hmd : decide (many ≤ (k : Int) + 1) = true := decide_eq_true hmk
   gi_wp2_with fail
   exact ⟨HKP.out, rfl, HNX.out _ (by omega)⟩
  ·have hmd : decide (many ≤ (k : Int) + 1) = false := decide_eq_false hmk
   gi_wp2_with fail
   exact ⟨HKP.out, HNX.out _ (by omega)⟩
 rintro N0 hS0 hdf0
 rw [hd0] at hdf0
 have HS0 := Lib.hid hS0
 have HDF0 := Lib.hid hdf0
 have HKN0 := Lib.hid (HST0.out N0 hS0.2.1)
 have HTN0 := Lib.hid (HTY0.out.only hS0.2.1 (by simpa using htn0))
 have v7 := Blk.f HTN0.out rfl
 have v8 := Blk.f hS0.1 rfl
 have v5 := Blk.f (HBW0.out.keep HKN0.out) rfl
 have v3 := Blk.f (HM1.out.keep HKN0.out) rfl
 obtain ⟨tb1, htb1⟩ : ∃ g, N0.heap.size = g := ⟨_, rfl⟩
 obtain ⟨P0, hP0, kP0, BP0⟩ := Blk.al1 htb1 #[.int .i64 0] 3
 have p7 := Blk.f BP0 rfl
 have pf := Blk.frozen BP0
 obtain ⟨T1, hT1, BT1, kT1⟩ : ∃ R, (P0.setCell ⟨tb1, 0, none⟩ (.int .i64 0)).setCell ⟨tb1, 0, none⟩ (.int .i64 1) = R ∧ Blk R tb1 3 #[.int .i64 1] ∧ Kp N0 R := ⟨_, rfl, (BP0.set_ 0 (.int .i64 0)).set_ 0 (.int .i64 1), (kP0.setCell (p := ⟨tb1, 0, none⟩) (by show N0.heap.size ≤ tb1; omega) _).setCell (p := ⟨tb1, 0, none⟩) (by show N0.heap.size ≤ tb1; omega) _⟩
 have HBT1 := Lib.hid BT1
 have HKT1 := Lib.hid (HKN0.out.trans kT1)
 have HDT1 := Lib.hid ((kT1.heap (Array.getElem?_eq_some_iff.1 HDF0.out).1).trans HDF0.out)
 have hdl0 : d0 < T1.heap.size := by have h1 := (Array.getElem?_eq_some_iff.1 HDF0.out).1; have := kT1.size; omega
 have HNT0 := Lib.hid kT1
 clear hS0 hdf0 kP0 BP0 BT1 kT1
 obtain ⟨nu, hnu⟩ : ∃ n, min (xs.length : Int) (max 1 many) = n := ⟨_, rfl⟩
 have hite : (if (if 1 < many then many else 1) < (xs.length : Int) then (if 1 < many then many else 1) else (xs.length : Int)) = nu := by
  rw [← hnu]
  split <;> split <;> omega
 rw [hnu] at v8
 clear hnu
 go_wp2_with fail
 clear hite v7 v8 v5 v3 p7 pf hP0
 rw [rounds_succ]
 have t1 := Blk.f HBT1.out rfl
 go_wp2_with fail
 clear t1
 obtain ⟨nb1, hnb1⟩ : ∃ g, T1.heap.size = g := ⟨_, rfl⟩
 obtain ⟨Y1, hY1, kY1, BY1⟩ := Blk.al1 hnb1 #[.int .i64 0] 3
 rw [hY1, hnb1]
 have HKY1 := Lib.hid ((HKT1.out).trans kY1)
 have HTY1 := Lib.hid ((HBT1.out).keep kY1)
 have hny1 := BY1.lt
 obtain ⟨d1, hd1⟩ : ∃ n, Y1.heap.size = n := ⟨_, rfl⟩
 have hnd1 : nb1 < d1 := by omega
 have hVn1 : V0.heap.size ≤ nb1 := by have := (HKT1.out).size; omega
 have HST1 : Hid (∀ V, Only [nb1] Y1 V → Kp V0 V) := Lib.hid (fun V hV => hV.kp HKY1.out (fun x hx => by simp only [List.mem_cons, List.not_mem_nil, or_false] at hx; omega))
 have I1 : Hid (RaI nb1 Y1 ((0 : Nat) : Int) True Y1) := Lib.hid ⟨BY1, Only.refl _ _, trivial⟩
 have htn1 : tb1 ≠ nb1 := by have := HBT1.out.lt; omega
 have HXY1 := Lib.hid kY1
 clear kY1 BY1 hY1
 refine vaq (N := xs.length) rfl vbv HIT.out (fun _ _ => rfl) (fun k V => RaI nb1 Y1 (k : Nat) True V) (fun _ _ => False) (fun V => RaI nb1 Y1 (xs.length : Int) True V) ?_ ?_ (fun _ V h => HAM.out.keep (HST1.out V h.2.1)) I1.out ?_ ?_ ?_ ?_
 ·intro q V1 V2 h hO
  rw [hd1] at hO
  exact h.turn hO hd1 hnd1
 ·exact fun _ _ _ h => h.elim
 ·exact fun V h => h
 ·exact fun _ _ _ _ h => h.elim
 ·rintro lp k V1 hk h hsV
  rw [hd1] at hsV
  rw [veZ hk]
  obtain ⟨x, hx⟩ : ∃ x, xs[k] = x := ⟨_, rfl⟩
  have HX := Lib.hid hx
  rw [hx]
  have HBX := Lib.hid (Blk.new V1 39 #[.int .u32 (x.1.a : Int), .int .i64 x.1.l])
  have HJ : Hid (RaI nb1 Y1 (k : Nat) True (V1.alloc (.cells #[.int .u32 (x.1.a : Int), .int .i64 x.1.l] 39))) := Lib.hid ⟨h.1.alloc _, h.2.1.alloc _, h.2.2⟩
  clear h hx
  gi_wp2_with fail
  refine ⟨⟨by rw [hd1]; exact Below.heap_alloc V1 _ _ (by omega), by rw [hd1]; exact Below.heap_alloc V1 _ _ (by omega)⟩, (fun V9 => RaI nb1 Y1 (k : Nat) True V9 ∧ Blk V9 V1.heap.size 39 #[.int .u32 (x.1.a : Int), .int .i64 x.1.l]), ⟨HJ.out, HBX.out⟩, ?_, ?_⟩
  ·rintro V8 V9 ⟨j1, j2⟩ hO
   try rw [hd1] at hO
   exact ⟨j1.turn hO hd1 hnd1, j2.only hO (by simp; omega)⟩
  rintro U ⟨j1, j2⟩ hU
  try rw [hd1] at hU
  have HJ1 := Lib.hid j1
  have HJ2 := Lib.hid j2
  have HKU := Lib.hid (HST1.out U j1.2.1)
  have HTU := Lib.hid (HTY1.out.only j1.2.1 (by simpa using htn1))
  obtain ⟨ga, off, hA, x0, x1, x2⟩ := on_at (HRW0.out.keep HKU.out) hk
  rw [HX.out] at x0 x1 x2
  subst hA
  have HC := Lib.hid (And.intro x0 (And.intro x1 x2))
  have hkl : decide (xs.length ≤ k) = false := by rw [decide_eq_false_iff_not]; omega
  have hki : (k : Int) < (xs.length : Int) := by omega
  have hk0 : (0 : Int) ≤ (k : Int) := by omega
  clear j1 j2 x0 x1 x2
  refine wpIn_block ?_
  repeat refine wpIn_seq ?_
  refine vbP [29, 30, 31, 32, 33, 34, 35, 36, 37, 38, 39, 40, 41, 42] [.int .i64 (k : Nat), .slice (some ⟨ga, off, none⟩) xs.length mw, .int .i64 xs.length, .bool false, .bool false, .slice (some ⟨ga, off, none⟩) xs.length mw, .int .i64 (k : Nat), .pointer (some ⟨ga, off + k * 3, none⟩), .agg #[.int .i64 (x.2 : Nat), .int .u32 (x.1.a : Int), .int .i64 x.1.l], .int .i64 (x.2 : Nat), .agg #[.int .u32 (x.1.a : Int), .int .i64 x.1.l], .agg #[.int .i64 (x.2 : Nat), .int .u32 (x.1.a : Int), .int .i64 x.1.l], .bool false, .bool false] [true, true, true, true, true, true, true, true, true, true, true, true, true, true] (by kernel_rfl) (by kernel_rfl) (by kernel_rfl) (vcV (vcV (vax vaH))) (by kernel_rfl) rfl rfl (by decide) rfl rfl rfl ?_ ?_
  ·intro i o a w9 ho hw f g hkp K hK
   have hi : i < 14 := by have := (List.getElem?_eq_some_iff.1 ho).1; simpa using this
   have hcs : i = 0 ∨ i = 1 ∨ i = 2 ∨ i = 3 ∨ i = 4 ∨ i = 5 ∨ i = 6 ∨ i = 7 ∨ i = 8 ∨ i = 9 ∨ i = 10 ∨ i = 11 ∨ i = 12 ∨ i = 13 := by omega
   clear hi
   rcases hcs with rfl | rfl | rfl | rfl | rfl | rfl | rfl | rfl | rfl | rfl | rfl | rfl | rfl | rfl
   all_goals
    first | simp only [List.getElem?_cons_zero, List.getElem?_cons_succ, Option.some.injEq] at ho | replace ho := Option.some.inj ho
    subst ho
   ·have t8 : a.tmps[8]?.getD undef = .pointer (some ⟨nb1, 0, none⟩) := g 8 (by decide)
    have u := Blk.f (HJ1.out.1.keep hkp) rfl
    unfold Oper.wp
    simp only [execOp, Act.eval, Array.getD_eq_getD_getElem?]
    go_simp
    exact hK _ _ (Kp.refl _) rfl
   ·have t5 : a.tmps[5]?.getD undef = .pointer (some ⟨bw, 0, none⟩) := g 5 (by decide)
    have u := Blk.f (HBW0.out.keep (HKU.out.trans hkp)) rfl
    unfold Oper.wp
    simp only [execOp, Act.eval, Array.getD_eq_getD_getElem?]
    go_simp
    exact hK _ _ (Kp.refl _) rfl
   ·have t30 : a.tmps[30]?.getD undef = .slice (some ⟨ga, off, none⟩) xs.length mw := f 1 rfl
    unfold Oper.wp
    simp only [execOp, Act.eval, Array.getD_eq_getD_getElem?]
    go_simp
    exact hK _ _ (Kp.refl _) rfl
   ·have t29 : a.tmps[29]?.getD undef = .int .i64 (k : Nat) := f 0 rfl
    have t31 : a.tmps[31]?.getD undef = .int .i64 xs.length := f 2 rfl
    unfold Oper.wp
    simp only [execOp, Act.eval, Array.getD_eq_getD_getElem?]
    go_simp
    exact hK _ _ (Kp.refl _) rfl
   ·have t32 : a.tmps[32]?.getD undef = .bool false := f 3 rfl
    unfold Oper.wp
    simp only [execOp, Act.eval, Array.getD_eq_getD_getElem?]
    go_simp
    exact hK _ _ (Kp.refl _) rfl
   ·have t5 : a.tmps[5]?.getD undef = .pointer (some ⟨bw, 0, none⟩) := g 5 (by decide)
    have u := Blk.f (HBW0.out.keep (HKU.out.trans hkp)) rfl
    unfold Oper.wp
    simp only [execOp, Act.eval, Array.getD_eq_getD_getElem?]
    go_simp
    exact hK _ _ (Kp.refl _) rfl
   ·have t8 : a.tmps[8]?.getD undef = .pointer (some ⟨nb1, 0, none⟩) := g 8 (by decide)
    have u := Blk.f (HJ1.out.1.keep hkp) rfl
    unfold Oper.wp
    simp only [execOp, Act.eval, Array.getD_eq_getD_getElem?]
    go_simp
    exact hK _ _ (Kp.refl _) rfl
   ·have t34 : a.tmps[34]?.getD undef = .slice (some ⟨ga, off, none⟩) xs.length mw := f 5 rfl
    have t35 : a.tmps[35]?.getD undef = .int .i64 (k : Nat) := f 6 rfl
    unfold Oper.wp
    simp only [execOp, Act.eval, Array.getD_eq_getD_getElem?]
    go_simp
    exact hK _ _ (Kp.refl _) rfl
   ·have t36 : a.tmps[36]?.getD undef = .pointer (some ⟨ga, off + k * 3, none⟩) := f 7 rfl
    have z0 := hkp.cell HC.out.1
    have z1 := hkp.cell HC.out.2.1
    have z2 := hkp.cell HC.out.2.2
    unfold Oper.wp
    simp only [execOp, Act.eval, Array.getD_eq_getD_getElem?]
    go_simp
    exact hK _ _ (Kp.refl _) rfl
   ·have t9 : a.tmps[9]?.getD undef = .int .i64 (x.2 : Nat) := g 9 (by decide)
    unfold Oper.wp
    simp only [execOp, Act.eval, Array.getD_eq_getD_getElem?]
    go_simp
    exact hK _ _ (Kp.refl _) rfl
   ·have t10 : a.tmps[10]?.getD undef = .pointer (some ⟨V1.heap.size, 0, none⟩) := g 10 (by decide)
    have u := Blk.f (HJ2.out.keep hkp) rfl
    unfold Oper.wp
    simp only [execOp, Act.eval, Array.getD_eq_getD_getElem?]
    go_simp
    exact hK _ _ (Kp.refl _) rfl
   ·have t38 : a.tmps[38]?.getD undef = .int .i64 (x.2 : Nat) := f 9 rfl
    have t39 : a.tmps[39]?.getD undef = .agg #[.int .u32 (x.1.a : Int), .int .i64 x.1.l] := f 10 rfl
    unfold Oper.wp
    simp only [execOp, Act.eval, Array.getD_eq_getD_getElem?]
    go_simp
    exact hK _ _ (Kp.refl _) rfl
   ·have t37 : a.tmps[37]?.getD undef = .agg #[.int .i64 (x.2 : Nat), .int .u32 (x.1.a : Int), .int .i64 x.1.l] := f 8 rfl
    have t40 : a.tmps[40]?.getD undef = .agg #[.int .i64 (x.2 : Nat), .int .u32 (x.1.a : Int), .int .i64 x.1.l] := f 11 rfl
    have he9 := vjY w9 (x.2 : Nat) x.1.a x.1.l
    unfold Oper.wp
    simp only [execOp, Act.eval, Array.getD_eq_getD_getElem?]
    go_simp
    exact hK _ _ (Kp.refl _) rfl
   ·have t33 : a.tmps[33]?.getD undef = .bool false := f 4 rfl
    have t41 : a.tmps[41]?.getD undef = .bool false := f 12 rfl
    unfold Oper.wp
    simp only [execOp, Act.eval, Array.getD_eq_getD_getElem?]
    go_simp
    exact hK _ _ (Kp.refl _) rfl
  intro w9 KV
  (try simp only [Exit.then])
  simp only [wrS, List.zip_cons_cons, List.zip_nil_right, List.foldl_cons, List.foldl_nil, List.setIfInBounds_toArray, List.set_cons_zero, List.set_cons_succ]
  have u := Blk.f (HJ1.out.1.keep KV) rfl
  have f := Blk.frozen (HJ1.out.1.keep KV)
  have HKV9 := Lib.hid KV
  have HNX : Hid (∀ C' : Prop, C' → RaI nb1 Y1 ((k + 1 : Nat) : Int) C' (w9.setCell ⟨nb1, 0, none⟩ (.int .i64 ((k : Int) + 1)))) := Lib.hid (fun C' hC' => by
   have h9 := HJ1.out.next KV ((k + 1 : Nat) : Int) hC'
   rw [show ((k + 1 : Nat) : Int) = (k : Int) + 1 from rfl] at h9 ⊢
   exact h9)
  have HKP : Hid (Kept2 Y1 U (w9.setCell ⟨nb1, 0, none⟩ (.int .i64 ((k : Int) + 1)))) := Lib.hid (by
   refine ⟨?_, ?_⟩
   ·rw [hd1]
    exact (Below.heap_setCell _ _ _ _ (by show d1 ≠ nb1; omega)).trans (KV.heap (by omega))
   ·rw [hd1]
    exact (Below.heap_setCell _ _ _ _ (by show d1 + 1 ≠ nb1; omega)).trans (KV.heap (by omega)))
  have HT9 := Lib.hid ((HTU.out.keep KV).far (p := ⟨nb1, 0, none⟩) htn1 (.int .i64 ((k : Int) + 1)))
  have HM9 := Lib.hid ((HM1.out.keep (HKU.out.trans KV)).far (p := ⟨nb1, 0, none⟩) (by have := HM1.out.lt; show b + 1 ≠ nb1; omega) (.int .i64 ((k : Int) + 1)))
  have v7 := Blk.f HT9.out rfl
  have v3 := Blk.f HM9.out rfl
  have v8 := Blk.f (l := [.int .i64 ((k : Int) + 1)]) (HNX.out True trivial).1 rfl
  clear KV
  gi_wp2_with fail
  exact ⟨HKP.out, HNX.out _ trivial⟩
 rintro N1 hS1 hdf1
 rw [hd1] at hdf1
 have HS1 := Lib.hid hS1
 have HDF1 := Lib.hid hdf1
 have HKN1 := Lib.hid (HST1.out N1 hS1.2.1)
 have HTN1 := Lib.hid (HTY1.out.only hS1.2.1 (by simpa using htn1))
 have v7 := Blk.f HTN1.out rfl
 have v8 := Blk.f hS1.1 rfl
 have v5 := Blk.f (HBW0.out.keep HKN1.out) rfl
 have v3 := Blk.f (HM1.out.keep HKN1.out) rfl
 obtain ⟨tb2, htb2⟩ : ∃ g, N1.heap.size = g := ⟨_, rfl⟩
 obtain ⟨P1, hP1, kP1, BP1⟩ := Blk.al1 htb2 #[.int .i64 0] 3
 have p7 := Blk.f BP1 rfl
 have pf := Blk.frozen BP1
 obtain ⟨T2, hT2, BT2, kT2⟩ : ∃ R, (P1.setCell ⟨tb2, 0, none⟩ (.int .i64 1)).setCell ⟨tb2, 0, none⟩ (.int .i64 2) = R ∧ Blk R tb2 3 #[.int .i64 2] ∧ Kp N1 R := ⟨_, rfl, (BP1.set_ 0 (.int .i64 1)).set_ 0 (.int .i64 2), (kP1.setCell (p := ⟨tb2, 0, none⟩) (by show N1.heap.size ≤ tb2; omega) _).setCell (p := ⟨tb2, 0, none⟩) (by show N1.heap.size ≤ tb2; omega) _⟩
 have HBT2 := Lib.hid BT2
 have HKT2 := Lib.hid (HKN1.out.trans kT2)
 have HDT2 := Lib.hid ((kT2.heap (Array.getElem?_eq_some_iff.1 HDF1.out).1).trans HDF1.out)
 have hdl1 : d1 < T2.heap.size := by have h1 := (Array.getElem?_eq_some_iff.1 HDF1.out).1; have := kT2.size; omega
 have HNT1 := Lib.hid kT2
 clear hS1 hdf1 kP1 BP1 BT2 kT2
 go_wp2_with fail
 clear v7 v8 v5 v3 p7 pf hP1
 have HDT3 : Hid (T2.heap[d0]? = some (.deferred (some []))) := Lib.hid ((((HS1.out.2.1.kp HXY1.out (fun x hx => by simp only [List.mem_cons, List.not_mem_nil, or_false] at hx; omega)).trans HNT1.out).heap hdl0).trans HDT1.out)
 have hdl2 : d0 < T2.heap.size := (Array.getElem?_eq_some_iff.1 HDT3.out).1
 have hne : d1 ≠ d0 := by have h1 := HKY1.out.size; have h2 := HXY1.out.size; omega
 rw [rounds_succ]
 have t2 := Blk.f HBT2.out rfl
 go_wp2_with fail
 clear t2
 refine (HWK.out T2 (HKV.out.trans HKT2.out)).mono ?_
 rintro e w9 ⟨rfl, K9⟩
 have k9 := (HKV.out.trans HKT2.out).trans K9
 have y := Blk.f (HB2.out.keep k9) rfl
 have f := Blk.frozen (HB2.out.keep k9)
 obtain ⟨Q, hQ, Q0, KQ, OQ⟩ := HFIN.out w9 k9
 have hk2 := HKT2.out.size
 have hkv := HKV.out.size
 have hd0 : Q.heap[d0]? = some (.deferred (some [])) := (OQ.heap (by have := K9.size; have := HKT2.out.size; omega) (by simp; omega)).trans ((K9.heap (by omega)).trans HDT3.out)
 have hd1 : Q.heap[d1]? = some (.deferred (some [])) := (OQ.heap (by have := K9.size; omega) (by simp; omega)).trans ((K9.heap hdl1).trans HDT2.out)
 clear K9 k9 OQ
 go_wp2_with fail
 refine vil hd1 hd0 hne (fun W' hO => ?_)
 have q0 : W'.cell? ⟨b + 1 + 1, 0, none⟩ = some (.bool true) := (Q0.only hO (by simp; omega)).cell 0
 refine ⟨.bool true, ?_, rfl, hO.kp KQ (by simp; omega)⟩
 simp [results, Tryz.results4, go_sem, q0]
end

section
open Go.ChangeShapes Go.WideShapes Go.ChangeAt Go.RowKit
theorem gRFa : Tryz.prog.globalNamed "waywarden/respond.faceBounds" = some 0 := by kernel_rfl
theorem tRFa : (Tryz.prog.globals[0]?).map (·.type) = some 230 := by kernel_rfl
def reLaid : List (String × DataW Unit) := [("waywarden/octet.widths", Rows.laid_waywarden_octet_widths), ("waywarden/config.capBounds", Rows.laid_waywarden_config_capBounds), ("waywarden/respond.faceBounds", Rows.laid_waywarden_respond_faceBounds)]
set_option maxRecDepth 100000 in
theorem vca {W : World} (h : laidMetH Tryz.prog reLaid W) : WidAt W ∧ CapAt W ∧ ReFac W := by
 unfold reLaid at h
 rw [MakeChecks.laidMetH_plain _ _ _ (by kernel_rfl)] at h
 obtain ⟨ps, ⟨g0, t0, cs0, f0, p0, q0, hg0, ht0, hv0, hd0, ⟨g1, t1, cs1, f1, p1, q1, hg1, ht1, hv1, hd1, ⟨g2, t2, cs2, f2, p2, q2, hg2, ht2, hv2, hd2, _, _⟩, _⟩, _⟩, _, _⟩ := h
 obtain rfl := Option.some.inj (gWid.symm.trans hg0)
 obtain rfl := Option.some.inj (tWid.symm.trans ht0)
 obtain rfl := Option.some.inj (gCap.symm.trans hg1)
 obtain rfl := Option.some.inj (tCap.symm.trans ht1)
 obtain rfl := Option.some.inj (gRFa.symm.trans hg2)
 obtain rfl := Option.some.inj (tRFa.symm.trans ht2)
 have d0 := World.var?_cell hg2 hv2 0
 have d1 := World.var?_cell hg2 hv2 1
 have a0 := World.var?_cell hg0 hv0 0
 have a1 := World.var?_cell hg0 hv0 1
 have a2 := World.var?_cell hg0 hv0 2
 have b0 := World.var?_cell hg1 hv1 0
 have b1 := World.var?_cell hg1 hv1 1
 have e0 := vlr (show DataW.trod _ Tryz.prog W _ _ _ _ _ _ = some (.agg [.lit (.int .i64 1), .lit (.int .i64 2), .lit (.int .i64 4)], _) from hd0)
 have e1 := vhL (show DataW.trod _ Tryz.prog W _ _ _ _ _ _ = some (.agg [.lit (.int .i64 1), .lit (.int .i64 256)], _) from hd1)
 have e2 := vhL (show DataW.trod _ Tryz.prog W _ _ _ _ _ _ = some (.agg [.lit (.int .i64 0), .lit (.int .i64 15)], _) from hd2)
 obtain ⟨l⟩ := cs0
 obtain ⟨m⟩ := cs1
 obtain ⟨k⟩ := cs2
 simp only at e0 e1 e2
 subst e0 e1 e2
 simp at a0 a1 a2 b0 b1 d0 d1
 exact ⟨⟨a0, a1, a2⟩, ⟨b0, b1⟩, ⟨d0, d1⟩⟩
theorem vlx (os : Os) (args : Array Value) : laidMetH Tryz.prog reLaid ((World.doorLaid Tryz.prog 400 os).forCall (fun _ _ => 0) ⟨#[], args, []⟩).memory :=
 laidMetH_of_parts3 (fuel := 8) (laidMet_of_run' 8 (by kernel_rfl) (by kernel_rfl)) (by kernel_rfl) (by kernel_rfl)
end

end Go.Proofs.YtgopnfacklmkaaaGreatDoor
