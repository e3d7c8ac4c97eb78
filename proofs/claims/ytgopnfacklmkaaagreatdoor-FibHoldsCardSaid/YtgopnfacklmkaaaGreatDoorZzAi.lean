/- Lemmas and contracts for the theorem of this claim: TmL, TmM, TmN, TmO, TmP. -/
import Derived.Test.YtgopnfacklmkaaaGreatDoorZzAh
import Derived.Carry
set_option linter.all false
set_option maxHeartbeats 16000000
namespace Go.Proofs.YtgopnfacklmkaaaGreatDoor
section
open Go.RowKit Go.Maps Go.WideShapes
set_option maxRecDepth 100000 in
theorem veg (B q m g c n : Nat) (l : List Tw) (i : Nat) (w : World) (Q : QuM w B q m (.slice (some ⟨g, 0, none⟩) (n + 1) c) l) (hn : l.length = n + 1) (hi : i ≤ n) (hl : n ≤ 900000) (hH : Heap ltT (fT l) (n + 1)) :
  Calls Tryz.prog 256 #[quI q, .int .i64 (i : Int)] w fun e w' => ∃ l', e = .returned (.iface 337 (twV (fT l i))) ∧ QuM w' B q m (.slice (some ⟨g, 0, none⟩) n c) l' ∧ (l' ++ [fT l i]).Perm l ∧ l'.length = n ∧ Heap ltT (fT l') n ∧ Only [q, g, m] w w' := by
 obtain ⟨y, hy⟩ : ∃ y, fT l i = y := ⟨_, rfl⟩
 rw [hy]
 have Hy := Lib.hid hy
 clear hy
 have HQ := Lib.hid Q
 have Hn := Lib.hid hn
 have HH := Lib.hid hH
 have hil : i < l.length := by omega
 have hnn : n < l.length := by omega
 have hS := vaD B q m g c l i n w (by rw [hn]; exact Q) hil hnn (by omega)
 rw [hn] at hS
 have HS := Lib.hid hS
 have hw : IntKind.i64.wrap (n : Int) = (n : Int) := IntWalk.i64_in _ (by omega)
 clear Q hn hS hH
 by_cases hni : n = i
 ·have b1 : ((n : Int) != (i : Int)) = false := by rw [bne_eq_false_iff_eq]; omega
  have b2 : ((n : Int) == (i : Int)) = true := by rw [beq_iff_eq]; omega
  obtain ⟨l3, x, e2, hl3⟩ := vbQ Hn.out
  have hx : x = y := by
   have h6 : fT (l3 ++ [x]) n = x := by rw [← hl3]; exact veP l3 x
   rw [← Hy.out, e2, ← hni, h6]
  have Hni := Lib.hid hni
  subst e2
  subst hx
  have hH3 := Lib.hid ((HH.out.less (Nat.le_succ n)).congr (g := fT l3) (fun k hk => (vfz l3 _ (by omega)).symm))
  clear hni HS
  go_enter Tryz.func256, Tryz.ntmps256
  go_wp2_with fail
  refine (vaA q (.map (some m)) (some ⟨g, 0, none⟩) (n + 1) c w HQ.out.bk).mono ?_
  rintro e w ⟨rfl, rfl⟩
  go_wp2_with fail
  refine (vbv B q m g c n l3 x w HQ.out hl3 (by omega)).mono ?_
  rintro e w3 ⟨rfl, Q3, O3⟩
  go_wp2_with fail
  go_ret
  exact ⟨l3, rfl, Q3, List.Perm.refl _, hl3, hH3.out, O3.wide (by simp)⟩
 ·have b1 : ((n : Int) != (i : Int)) = true := by rw [bne_iff_ne]; omega
  have b2 : ((n : Int) == (i : Int)) = false := by rw [beq_eq_false_iff_ne]; omega
  have Hin := Lib.hid (show i < n by omega)
  clear hni
  go_enter Tryz.func256, Tryz.ntmps256
  go_wp2_with fail
  refine (vaA q (.map (some m)) (some ⟨g, 0, none⟩) (n + 1) c w HQ.out.bk).mono ?_
  rintro e w ⟨rfl, rfl⟩
  go_wp2_with fail
  refine HS.out.mono ?_
  rintro e w1 ⟨rfl, Q1, O1⟩
  have hl1 : (swapL l i n hil hnn).length = n + 1 := by rw [vaF]; exact Hn.out
  have hD : DownH ltT (fT (swapL l i n hil hnn)) n i i := by
   refine Heap.put vbj (HH.out.less (Nat.le_succ n)) (fun k hk hk0 => ?_) Hin.out
   rw [vbu, swH_o _ hk0 (by omega)]
  have HD := Lib.hid hD
  have Hl1 := Lib.hid hl1
  clear hD hl1 HS HH
  go_wp2_with fail
  refine (vbG B q m g c n (n + 1) (swapL l i n hil hnn) i w1 Q1 Hl1.out (Nat.le_succ n) (by omega) (by omega) (by omega) HD.out).mono ?_
  rintro e w2 ⟨l2, b, rfl, hp2, hl2, Q2, ht2, hT, hF, O2⟩
  have HT := Lib.hid hT
  have HF := Lib.hid hF
  clear hT hF
  cases b with
  | true =>
   have hH2 : Heap ltT (fT l2) n := (by first | exact HT.out rfl | exact HT.out trivial)
   obtain ⟨l3, x, e2, hl3⟩ := vbQ hl2
   have hx : x = y := by
    have h5 := (ht2) n (Nat.le_refl _)
    have h6 : fT (l3 ++ [x]) n = x := by rw [← hl3]; exact veP l3 x
    rw [e2, h6, vbu, swH_r, Hy.out] at h5
    exact h5
   subst e2
   subst hx
   have hH3 := Lib.hid ((hH2).congr (g := fT l3) (fun k hk => (vfz l3 _ (by omega)).symm))
   have hp3 := Lib.hid ((hp2).trans (vaW l i n hil hnn))
   have hO := Lib.hid (O1.trans O2)
   go_wp2_with fail
   refine (vbv B q m g c n l3 x _ Q2 hl3 (by omega)).mono ?_
   rintro e w5 ⟨rfl, Q5, O5⟩
   go_wp2_with fail
   go_ret
   exact ⟨l3, rfl, Q5, hp3.out, hl3, hH3.out, (hO.out.wide (by simp)).trans (O5.wide (by simp))⟩
  | false =>
   obtain ⟨hU, _⟩ : UpH ltT (fT l2) n i ∧ l2 = swapL l i n hil hnn := (by first | exact HF.out rfl | exact HF.out trivial)
   have HU := Lib.hid hU
   clear hU
   go_wp2_with fail
   refine (vcL B q m g c n (n + 1) l2 i w2 Q2 hl2 (Nat.le_succ n) Hin.out (by omega) HU.out).mono ?_
   rintro e w4 ⟨rfl, l4, hp4, hl4, hH4, ht4, Q4, O4⟩
   obtain ⟨l3, x, e2, hl3⟩ := vbQ hl4
   have hx : x = y := by
    have h5 := (fun y hy => (ht4 y hy).trans (ht2 y hy)) n (Nat.le_refl _)
    have h6 : fT (l3 ++ [x]) n = x := by rw [← hl3]; exact veP l3 x
    rw [e2, h6, vbu, swH_r, Hy.out] at h5
    exact h5
   subst e2
   subst hx
   have hH3 := Lib.hid ((hH4).congr (g := fT l3) (fun k hk => (vfz l3 _ (by omega)).symm))
   have hp3 := Lib.hid ((hp4.trans hp2).trans (vaW l i n hil hnn))
   have hO := Lib.hid ((O1.trans O2).trans O4)
   go_wp2_with fail
   refine (vbv B q m g c n l3 x _ Q4 hl3 (by omega)).mono ?_
   rintro e w5 ⟨rfl, Q5, O5⟩
   go_wp2_with fail
   go_ret
   exact ⟨l3, rfl, Q5, hp3.out, hl3, hH3.out, (hO.out.wide (by simp)).trans (O5.wide (by simp))⟩
theorem vbR (a q : Nat) (w : World) (h : Blk w a 216 #[.pointer (some ⟨q, 0, none⟩)]) : Calls Tryz.prog 252 #[.pointer (some ⟨a, 0, none⟩)] w fun e w' => e = .returned (.bool false) ∧ w = w' := by
 have c0 : w.cell? ⟨a, 0, none⟩ = some (.pointer (some ⟨q, 0, none⟩)) := h.cell 0
 clear h
 go_enter Tryz.func252, Tryz.ntmps252
 go_wp2_with fail
 go_ret
 exact ⟨rfl, rfl⟩
theorem vnK (g : Nat) (w : World) (h : Blk w g 250 #[.int .i64 1, .int .i64 2]) : Calls Tryz.prog 297 #[.int .i64 3, .slice (some ⟨g, 0, none⟩) 2 2] w fun e w' => e = .returned (.bool false) ∧ w = w' := by
 obtain ⟨c0, c1⟩ := Blk.v2 h (.int .i64 1) (.int .i64 2) rfl
 clear h
 go_enter Tryz.func297, Tryz.ntmps297
 go_wp2_with fail
 refine wp_loop_rounds 3 ?_
 rw [rounds_succ]
 go_wp2_with fail
 rw [rounds_succ]
 go_wp2_with fail
 rw [rounds_succ]
 go_wp2_with fail
 go_ret
 exact ⟨rfl, rfl⟩
theorem vlI (g : Nat) (w : World) (h : Blk w g 250 #[.int .i64 3]) : Calls Tryz.prog 297 #[.int .i64 3, .slice (some ⟨g, 0, none⟩) 1 1] w fun e w' => e = .returned (.bool true) ∧ w = w' := by
 have c0 : w.cell? ⟨g, 0, none⟩ = some (.int .i64 3) := h.cell 0
 clear h
 go_enter Tryz.func297, Tryz.ntmps297
 go_wp2_with fail
 refine wp_loop_rounds 2 ?_
 rw [rounds_succ]
 go_wp2_with fail
 go_ret
 exact ⟨rfl, rfl⟩
set_option maxRecDepth 100000 in
theorem vlJ (w : World) : Calls Tryz.prog 50 #[] w fun e w' => ∃ a q m, e = .returned (.pointer (some ⟨a, 0, none⟩)) ∧ Blk w' a 216 #[.pointer (some ⟨q, 0, none⟩)] ∧ QuM w' w.heap.size q m (.slice none 0 0) [] ∧ Kp w w' ∧ ∀ b ∈ [a, q, m], w.heap.size ≤ b ∧ b < w'.heap.size := by
 have hmk : ∀ w, (Instr.makeMap 211 none).run Tryz.prog w = .ok (.map (some w.heap.size)) (w.alloc (.map #[] 0)) := fun w => run_makeMap _ _
 go_enter Tryz.func50, Tryz.ntmps50
 go_wp2_with fail
 go_ret
 refine ⟨w.heap.size + 1 + 1, w.heap.size + 1, w.heap.size, rfl, ?_, ⟨?_, Own.nil _ _ _ _ _, ⟨fun _ => none, ?_, ?_⟩, fun t ht => absurd ht (by simp)⟩, (((Kp.refl w).alloc _).alloc _).alloc _, by simp; omega⟩
 ·have h := Blk.new1 (w.alloc (.map #[] 0)) (.cells #[.slice none 0 0, .map (some w.heap.size)] 214) 216 #[.pointer (some ⟨w.heap.size + 1, 0, none⟩)]
  simpa using h
 ·have h := (Blk.new (w.alloc (.map #[] 0)) 214 #[.slice none 0 0, .map (some w.heap.size)]).alloc (.cells #[.pointer (some ⟨w.heap.size + 1, 0, none⟩)] 216)
  simpa using h
 ·exact ⟨.map [], ((World.ownsMap_made w Tryz.prog 252 (plainElem Tryz.prog 3)).alloc _).alloc _, rfl, ⟨fun t _ => rfl, fun t _ i h => by cases h⟩⟩
 ·exact ⟨fun i h => absurd h (by simp), fun t _ => rfl⟩
set_option maxRecDepth 100000 in
theorem vaH (p : PI) (w : World) (ha : p.a < 4294967296) : Calls Tryz.prog 253 #[.agg #[.int .i64 3, .int .u32 p.a, .int .i64 p.l]] w fun e w' => e = .returned (.int .i64 (if checkP p = 0 then 0 else 2)) ∧ Kp w w' := by
 obtain ⟨V, hV⟩ : ∃ V : Int, (if checkP p = 0 then 0 else 2) = V := ⟨_, rfl⟩
 rw [hV]
 have HV := Lib.hid hV
 clear hV
 obtain ⟨W, hW, kW, BW⟩ := Blk.al1 (w := w) rfl #[.int .i64 3, .int .u32 p.a, .int .i64 p.l] 252
 have c0 : W.cell? ⟨w.heap.size, 0, none⟩ = some (.int .i64 3) := BW.cell 0
 have kW1 := kW.alloc (.cells #[.int .i64 1, .int .i64 2] 250)
 have BW1 := BW.alloc (.cells #[.int .i64 1, .int .i64 2] 250)
 have HB := Lib.hid BW1
 go_enter Tryz.func253, Tryz.ntmps253
 go_wp2_with fail
 refine vac 0 rfl ?_
 go_wp2_with fail
 try rw [hW]
 clear hW
 refine (vnK W.heap.size _ (Blk.new W _ _)).mono ?_
 rintro e w' ⟨rfl, rfl⟩
 obtain ⟨W1, hW1, k1, B1⟩ : ∃ W1, W.alloc (.cells #[.int .i64 1, .int .i64 2] 250) = W1 ∧ Kp w W1 ∧ Blk W1 w.heap.size 252 #[.int .i64 3, .int .u32 p.a, .int .i64 p.l] := ⟨_, rfl, kW1, BW1⟩
 rw [hW1]
 clear hW1 c0
 have c0 : W1.cell? ⟨w.heap.size, 0, none⟩ = some (.int .i64 3) := B1.cell 0
 go_wp2_with fail
 refine (vlI W1.heap.size _ (Blk.new W1 _ _)).mono ?_
 rintro e w' ⟨rfl, rfl⟩
 obtain ⟨W2, hW2, k2, B2⟩ : ∃ W2, W1.alloc (.cells #[.int .i64 3] 250) = W2 ∧ Kp w W2 ∧ Blk W2 w.heap.size 252 #[.int .i64 3, .int .u32 p.a, .int .i64 p.l] := ⟨_, rfl, k1.alloc _, B1.alloc _⟩
 rw [hW2]
 clear hW2 c0
 obtain ⟨-, c1, c2⟩ := Blk.v3 B2 _ (.int .u32 p.a) (.int .i64 p.l) rfl
 go_wp2_with fail
 refine (vax p W2 ha).mono ?_
 rintro e w3 ⟨rfl, K3⟩
 obtain ⟨e, he⟩ : ∃ e, checkP p = e := ⟨_, rfl⟩
 rw [he]
 have HE := Lib.hid he
 clear he
 by_cases h0 : e = 0
 ·subst h0
  have HW := Lib.hid (show V = 0 by rw [← HV.out, if_pos HE.out])
  go_wp2_with fail
  refine vak ?_
  go_ret
  exact ⟨by rw [HW.out]; rfl, k2.trans K3⟩
 ·have hb : (e != 0) = true := by rw [bne_iff_ne]; exact h0
  have hb2 : (e == 0) = false := by rw [beq_eq_false_iff_ne]; exact h0
  have HW := Lib.hid (show V = 2 by rw [← HV.out, if_neg (by rw [HE.out]; exact h0)])
  clear h0
  go_wp2_with fail
  go_step3
  refine ⟨rfl, ?_⟩
  go_wp2_with fail
  refine vbl ?_
  go_ret
  exact ⟨by rw [HW.out]; rfl, k2.trans K3⟩
set_option maxRecDepth 100000 in
theorem vcM (B a q m g c n : Nat) (l : List Tw) (w : World) (hA : Blk w a 216 #[.pointer (some ⟨q, 0, none⟩)]) (Q : QuM w B q m (.slice (some ⟨g, 0, none⟩) (n + 1) c) l) (hn : l.length = n + 1) :
  Calls Tryz.prog 202 #[.pointer (some ⟨a, 0, none⟩)] w fun e w' => e = .returned (.tuple #[tmV (fT l 0), .int .i64 (fT l 0).d, .bool true]) ∧ Kp w w' := by
 obtain ⟨b, off, hB, x0, x1, x2, x3⟩ := tw_at (Q.own.rdAt (by decide) Tw.len) (k := 0) (by omega)
 injection hB with hB
 injection hB with e1 e2
 subst e1
 subst e2
 obtain ⟨y, hy⟩ : ∃ y, fT l 0 = y := ⟨_, rfl⟩
 have hy2 : l[0]'(by omega) = y := by rw [← hy, fT_at (by omega)]
 rw [hy2] at x0 x1 x2 x3
 rw [hy]
 simp only [Nat.zero_mul, Nat.zero_add] at x0 x1 x2 x3
 clear hy hy2
 obtain ⟨p, hp⟩ : ∃ p, w.heap.size = p := ⟨_, rfl⟩
 obtain ⟨W0, hW0, K0, BP⟩ := Blk.al1 hp #[.int .i64 0, .int .u32 0, .int .i64 0] 252
 have A0 := hA.keep K0
 have Q0 := Q.keep K0
 obtain ⟨r, hr⟩ : ∃ r, W0.heap.size = r := ⟨_, rfl⟩
 obtain ⟨W1, hW1, K1, BR⟩ := Blk.al1 hr #[.int .i64 y.k, .int .u32 (y.p.a : Int), .int .i64 y.p.l, .int .i64 y.d] 337
 have BP1 := BP.keep K1
 have c0 : W0.cell? ⟨a, 0, none⟩ = some (.pointer (some ⟨q, 0, none⟩)) := A0.cell 0
 have c1 : W0.cell? ⟨q, 0, none⟩ = some (.slice (some ⟨g, 0, none⟩) (n + 1) c) := Q0.bk.cell 0
 replace x0 := K0.cell x0
 replace x1 := K0.cell x1
 replace x2 := K0.cell x2
 replace x3 := K0.cell x3
 obtain ⟨r0, r1, r2, r3⟩ := Blk.v4 BR (.int .i64 y.k) (.int .u32 y.p.a) (.int .i64 y.p.l) (.int .i64 y.d) rfl
 obtain ⟨p0, p1, p2⟩ := Blk.v3 BP1 (.int .i64 0) (.int .u32 0) (.int .i64 0) rfl
 have z0 := Blk.frozen BP1
 have hpr : ¬ p = r := by have := BP.lt; omega
 have hrp : ¬ r = p := fun e => hpr e.symm
 have hpos : ¬ (n : Int) + 1 = 0 := by omega
 have hposb : ((n : Int) + 1 == 0) = false := by rw [beq_eq_false_iff_ne]; exact hpos
 have h01 : (0 : Int) < (n : Int) + 1 := by omega
 have KW := K0.trans K1
 have HK := Lib.hid (((KW.setCell (p := ⟨p, 0, none⟩) (by simp [← hp]) (.int .i64 y.k)).setCell (p := ⟨p, 1, none⟩) (by simp [← hp]) (.int .u32 (y.p.a : Int))).setCell (p := ⟨p, 2, none⟩) (by simp [← hp]) (.int .i64 y.p.l))
 have HBP := Lib.hid (((BP1.set_ 0 (.int .i64 y.k)).set_ 1 (.int .u32 (y.p.a : Int))).set_ 2 (.int .i64 y.p.l))
 go_enter Tryz.func202, Tryz.ntmps202
 go_wp2_with (first | (go_at_call 252; refine (vbR a q _ A0).mono ?_; rintro e w' ⟨rfl, rfl⟩) | (go_at_call 263; refine (vaA q (.map (some m)) (some ⟨g, 0, none⟩) (n + 1) c _ Q0.bk).mono ?_; rintro e w' ⟨rfl, rfl⟩))
 go_region
 all_goals (try go_wp2_with fail)
 obtain ⟨V, hV, kV, bV⟩ : ∃ V, (((W1.setCell ⟨p, 0, none⟩ (.int .i64 y.k)).setCell ⟨p, 1, none⟩ (.int .u32 (y.p.a : Int))).setCell ⟨p, 2, none⟩ (.int .i64 y.p.l)).drew = V ∧ Kp w V ∧ Blk V p 252 #[.int .i64 y.k, .int .u32 (y.p.a : Int), .int .i64 y.p.l] := ⟨_, rfl, HK.out.drew, by simpa using HBP.out.drew⟩
 rw [hV]
 obtain ⟨v0, v1, v2⟩ := Blk.v3 bV (.int .i64 y.k) (.int .u32 y.p.a) (.int .i64 y.p.l) rfl
 exact bodyPost_ret (v := .tuple #[tmV y, .int .i64 y.d, .bool true]) (by simp [results, Tryz.results202, go_sem, v0, v1, v2]) rfl ⟨rfl, kV⟩
set_option maxRecDepth 100000 in
theorem vlK (B a q m c : Nat) (A : Option Addr) (w : World) (hA : Blk w a 216 #[.pointer (some ⟨q, 0, none⟩)]) (Q : QuM w B q m (.slice A 0 c) []) :
  Calls Tryz.prog 202 #[.pointer (some ⟨a, 0, none⟩)] w fun e w' => e = .returned (.tuple #[.agg #[.int .i64 0, .int .u32 0, .int .i64 0], .int .i64 0, .bool false]) ∧ Kp w w' := by
 obtain ⟨p, hp⟩ : ∃ p, w.heap.size = p := ⟨_, rfl⟩
 obtain ⟨W0, hW0, K0, BP⟩ := Blk.al1 hp #[.int .i64 0, .int .u32 0, .int .i64 0] 252
 have A0 := hA.keep K0
 have Q0 := Q.keep K0
 have c0 : W0.cell? ⟨a, 0, none⟩ = some (.pointer (some ⟨q, 0, none⟩)) := A0.cell 0
 obtain ⟨p0, p1, p2⟩ := Blk.v3 BP (.int .i64 0) (.int .u32 0) (.int .i64 0) rfl
 have z0 := Blk.frozen BP
 have HK := Lib.hid (((K0.setCell (p := ⟨p, 0, none⟩) (by simp [← hp]) (.int .i64 0)).setCell (p := ⟨p, 1, none⟩) (by simp [← hp]) (.int .u32 0)).setCell (p := ⟨p, 2, none⟩) (by simp [← hp]) (.int .i64 0))
 have HBP := Lib.hid (((BP.set_ 0 (.int .i64 0)).set_ 1 (.int .u32 0)).set_ 2 (.int .i64 0))
 go_enter Tryz.func202, Tryz.ntmps202
 go_wp2_with (first | (go_at_call 252; refine (vbR a q _ A0).mono ?_; rintro e w' ⟨rfl, rfl⟩) | (go_at_call 263; refine (vaA q (.map (some m)) A 0 c _ Q0.bk).mono ?_; rintro e w' ⟨rfl, rfl⟩))
 obtain ⟨V, hV, kV, bV⟩ : ∃ V, ((W0.setCell ⟨p, 0, none⟩ (.int .i64 0)).setCell ⟨p, 1, none⟩ (.int .u32 0)).setCell ⟨p, 2, none⟩ (.int .i64 0) = V ∧ Kp w V ∧ Blk V p 252 #[.int .i64 0, .int .u32 0, .int .i64 0] := ⟨_, rfl, HK.out, by simpa using HBP.out⟩
 rw [hV]
 obtain ⟨v0, v1, v2⟩ := Blk.v3 bV (.int .i64 0) (.int .u32 0) (.int .i64 0) rfl
 exact bodyPost_ret (v := .tuple #[.agg #[.int .i64 0, .int .u32 0, .int .i64 0], .int .i64 0, .bool false]) (by simp [results, Tryz.results202, go_sem, v0, v1, v2]) rfl ⟨rfl, kV⟩
theorem QuM.far {w w' : World} {B q m g n c p : Nat} {l : List Tw} (h : QuM w B q m (.slice (some ⟨g, 0, none⟩) n c) l) (hO : Only [p] w w') (hq : q ≠ p) (hg : g ≠ p) (hm : m ≠ p) : QuM w' B q m (.slice (some ⟨g, 0, none⟩) n c) l := by
 obtain ⟨cur, hcur⟩ := h.own.blk4
 obtain ⟨f, hmm, hp⟩ := h.mp
 exact ⟨h.bk.only hO (by simpa using hq), h.own.lie (hO.block g hcur.lt (by simpa using hg)), ⟨f, hmm.lie (hO.block m hmm.lt (by simpa using hm)), hp⟩, h.wf⟩
theorem rowTb (v : Value) (w : World) : (Instr.typeAssert (.iface 337 v) 20 337 false).run Tryz.prog w = .ok v w := by kernel_rfl
set_option maxRecDepth 100000 in
theorem vnL (B a q m c : Nat) (A : Option Addr) (now : Int) (w : World) (hA : Blk w a 216 #[.pointer (some ⟨q, 0, none⟩)]) (Q : QuM w B q m (.slice A 0 c) []) :
  Calls Tryz.prog 143 #[.pointer (some ⟨a, 0, none⟩), .int .i64 now] w fun e w' => e = .returned (.tuple #[.agg #[.int .i64 0, .int .u32 0, .int .i64 0], .int .i64 0, .bool false]) ∧ Kp w w' := by
 obtain ⟨p, hp⟩ : ∃ p, w.heap.size = p := ⟨_, rfl⟩
 obtain ⟨W0, hW0, K0, BP⟩ := Blk.al1 hp #[.int .i64 0, .int .u32 0, .int .i64 0] 252
 have A0 := hA.keep K0
 have Q0 := Q.keep K0
 go_enter Tryz.func143, Tryz.ntmps143
 go_wp2_with fail
 refine (vlK B a q m c A _ A0 Q0).mono ?_
 rintro e w1 ⟨rfl, K1⟩
 have BP1 := BP.keep K1
 have KW := K0.trans K1
 obtain ⟨p0, p1, p2⟩ := Blk.v3 BP1 (.int .i64 0) (.int .u32 0) (.int .i64 0) rfl
 have z0 := Blk.frozen BP1
 have HK := Lib.hid (((KW.setCell (p := ⟨p, 0, none⟩) (by simp [← hp]) (.int .i64 0)).setCell (p := ⟨p, 1, none⟩) (by simp [← hp]) (.int .u32 0)).setCell (p := ⟨p, 2, none⟩) (by simp [← hp]) (.int .i64 0))
 have HBP := Lib.hid (((BP1.set_ 0 (.int .i64 0)).set_ 1 (.int .u32 0)).set_ 2 (.int .i64 0))
 go_wp2_with fail
 obtain ⟨V, hV, kV, bV⟩ : ∃ V, ((w1.setCell ⟨p, 0, none⟩ (.int .i64 0)).setCell ⟨p, 1, none⟩ (.int .u32 0)).setCell ⟨p, 2, none⟩ (.int .i64 0) = V ∧ Kp w V ∧ Blk V p 252 #[.int .i64 0, .int .u32 0, .int .i64 0] := ⟨_, rfl, HK.out, by simpa using HBP.out⟩
 rw [hV]
 obtain ⟨v0, v1, v2⟩ := Blk.v3 bV (.int .i64 0) (.int .u32 0) (.int .i64 0) rfl
 exact bodyPost_ret (v := .tuple #[.agg #[.int .i64 0, .int .u32 0, .int .i64 0], .int .i64 0, .bool false]) (by simp [results, Tryz.results143, go_sem, v0, v1, v2]) rfl ⟨rfl, kV⟩
set_option maxRecDepth 100000 in
theorem vjg (B a q m g c n : Nat) (l : List Tw) (now : Int) (w : World) (hA : Blk w a 216 #[.pointer (some ⟨q, 0, none⟩)]) (Q : QuM w B q m (.slice (some ⟨g, 0, none⟩) (n + 1) c) l) (hn : l.length = n + 1) (hd : now < (fT l 0).d) :
  Calls Tryz.prog 143 #[.pointer (some ⟨a, 0, none⟩), .int .i64 now] w fun e w' => e = .returned (.tuple #[.agg #[.int .i64 0, .int .u32 0, .int .i64 0], .int .i64 0, .bool false]) ∧ Kp w w' := by
 obtain ⟨p, hp⟩ : ∃ p, w.heap.size = p := ⟨_, rfl⟩
 obtain ⟨W0, hW0, K0, BP⟩ := Blk.al1 hp #[.int .i64 0, .int .u32 0, .int .i64 0] 252
 have A0 := hA.keep K0
 have Q0 := Q.keep K0
 have hN := vcM B a q m g c n l W0 A0 Q0 hn
 obtain ⟨y, hy⟩ : ∃ y, fT l 0 = y := ⟨_, rfl⟩
 rw [hy] at hN hd
 have HN := Lib.hid hN
 clear hN hy
 go_enter Tryz.func143, Tryz.ntmps143
 go_wp2_with fail
 refine HN.out.mono ?_
 rintro e w1 ⟨rfl, K1⟩
 clear HN
 have BP1 := BP.keep K1
 have KW := K0.trans K1
 obtain ⟨p0, p1, p2⟩ := Blk.v3 BP1 (.int .i64 0) (.int .u32 0) (.int .i64 0) rfl
 have z0 := Blk.frozen BP1
 have HK := Lib.hid (((KW.setCell (p := ⟨p, 0, none⟩) (by simp [← hp]) (.int .i64 0)).setCell (p := ⟨p, 1, none⟩) (by simp [← hp]) (.int .u32 0)).setCell (p := ⟨p, 2, none⟩) (by simp [← hp]) (.int .i64 0))
 have HBP := Lib.hid (((BP1.set_ 0 (.int .i64 0)).set_ 1 (.int .u32 0)).set_ 2 (.int .i64 0))
 go_wp2_with fail
 obtain ⟨V, hV, kV, bV⟩ : ∃ V, ((w1.setCell ⟨p, 0, none⟩ (.int .i64 0)).setCell ⟨p, 1, none⟩ (.int .u32 0)).setCell ⟨p, 2, none⟩ (.int .i64 0) = V ∧ Kp w V ∧ Blk V p 252 #[.int .i64 0, .int .u32 0, .int .i64 0] := ⟨_, rfl, HK.out, by simpa using HBP.out⟩
 rw [hV]
 obtain ⟨v0, v1, v2⟩ := Blk.v3 bV (.int .i64 0) (.int .u32 0) (.int .i64 0) rfl
 exact bodyPost_ret (v := .tuple #[.agg #[.int .i64 0, .int .u32 0, .int .i64 0], .int .i64 0, .bool false]) (by simp [results, Tryz.results143, go_sem, v0, v1, v2]) rfl ⟨rfl, kV⟩
set_option maxRecDepth 100000 in
theorem vlL (B a q m g c n : Nat) (l : List Tw) (now : Int) (w : World) (hA : Blk w a 216 #[.pointer (some ⟨q, 0, none⟩)]) (Q : QuM w B q m (.slice (some ⟨g, 0, none⟩) (n + 1) c) l) (hn : l.length = n + 1) (hl : n ≤ 900000) (hH : Heap ltT (fT l) (n + 1)) (hd : (fT l 0).d ≤ now) :
  Calls Tryz.prog 143 #[.pointer (some ⟨a, 0, none⟩), .int .i64 now] w fun e w' => ∃ l', e = .returned (.tuple #[tmV (fT l 0), .int .i64 (fT l 0).d, .bool true]) ∧ QuM w' B q m (.slice (some ⟨g, 0, none⟩) n c) l' ∧ (l' ++ [fT l 0]).Perm l ∧ l'.length = n ∧ Heap ltT (fT l') n ∧ Only [q, g, m] w w' := by
 obtain ⟨p, hp⟩ : ∃ p, w.heap.size = p := ⟨_, rfl⟩
 obtain ⟨W0, hW0, K0, BP⟩ := Blk.al1 hp #[.int .i64 0, .int .u32 0, .int .i64 0] 252
 have A0 := hA.keep K0
 have Q0 := Q.keep K0
 have hN := vcM B a q m g c n l W0 A0 Q0 hn
 have hP : ∀ w1, Kp W0 w1 → _ := fun w1 K1 => vgn B q m g c n l w1 (Q0.keep K1) hn hl hH
 obtain ⟨y, hy⟩ : ∃ y, fT l 0 = y := ⟨_, rfl⟩
 rw [hy] at hN hd ⊢
 simp only [hy] at hP
 have HN := Lib.hid hN
 have HP := Lib.hid hP
 have hnot : ¬ now < y.d := by omega
 have hnb : decide (now < y.d) = false := decide_eq_false hnot
 have hta := rowTb
 obtain ⟨cur, hcur⟩ := Q.own.blk4
 have hqlt := Q.bk.lt
 have hglt := hcur.lt
 have hmlt : m < w.heap.size := by obtain ⟨f, hm, _⟩ := Q.mp; exact hm.lt
 clear hN hP hy hd hnot
 go_enter Tryz.func143, Tryz.ntmps143
 go_wp2_with fail
 refine HN.out.mono ?_
 rintro e w1 ⟨rfl, K1⟩
 have A1 := A0.keep K1
 have BP1 := BP.keep K1
 have c0 : w1.cell? ⟨a, 0, none⟩ = some (.pointer (some ⟨q, 0, none⟩)) := A1.cell 0
 go_wp2_with fail
 refine (HP.out w1 K1).mono ?_
 rintro e w2 ⟨l', rfl, Q2, hp2, hl2, hH2, O2⟩
 clear HN HP c0
 have BP2 := BP1.only O2 (by simp; omega)
 obtain ⟨r, hr⟩ : ∃ r, w2.heap.size = r := ⟨_, rfl⟩
 obtain ⟨W3, hW3, K3, BR⟩ := Blk.al1 hr #[.int .i64 y.k, .int .u32 (y.p.a : Int), .int .i64 y.p.l, .int .i64 y.d] 337
 have BP3 := BP2.keep K3
 obtain ⟨r0, r1, r2, r3⟩ := Blk.v4 BR (.int .i64 y.k) (.int .u32 y.p.a) (.int .i64 y.p.l) (.int .i64 y.d) rfl
 obtain ⟨p0, p1, p2⟩ := Blk.v3 BP3 (.int .i64 0) (.int .u32 0) (.int .i64 0) rfl
 have z0 := Blk.frozen BP3
 have hpr : ¬ p = r := by have := BP2.lt; omega
 have hrp : ¬ r = p := fun e => hpr e.symm
 have PS := Lib.hid ((((Only.refl [p] W3).setCell (p := ⟨p, 0, none⟩) (.inl (by simp)) (.int .i64 y.k)).setCell (p := ⟨p, 1, none⟩) (.inl (by simp)) (.int .u32 (y.p.a : Int))).setCell (p := ⟨p, 2, none⟩) (.inl (by simp)) (.int .i64 y.p.l))
 have HBP := Lib.hid (((BP3.set_ 0 (.int .i64 y.k)).set_ 1 (.int .u32 (y.p.a : Int))).set_ 2 (.int .i64 y.p.l))
 have Q3 := Lib.hid (Q2.keep K3)
 have OO := Lib.hid ((((Only.of_kp (bs := [q, g, m]) K0).trans (Only.of_kp K1)).trans O2).trans (Only.of_kp K3))
 go_wp2_with fail
 go_region
 all_goals (try go_wp2_with fail)
 obtain ⟨V, hV, oV, bV⟩ : ∃ V, (((W3.setCell ⟨p, 0, none⟩ (.int .i64 y.k)).setCell ⟨p, 1, none⟩ (.int .u32 (y.p.a : Int))).setCell ⟨p, 2, none⟩ (.int .i64 y.p.l)).drew = V ∧ Only [p] W3 V ∧ Blk V p 252 #[.int .i64 y.k, .int .u32 (y.p.a : Int), .int .i64 y.p.l] := ⟨_, rfl, PS.out.drew, by simpa using HBP.out.drew⟩
 rw [hV]
 obtain ⟨v0, v1, v2⟩ := Blk.v3 bV (.int .i64 y.k) (.int .u32 y.p.a) (.int .i64 y.p.l) rfl
 have QV := Q3.out.far oV (by omega) (by omega) (by omega)
 have OV : Only [q, g, m] w V := ⟨oV.os.trans OO.out.os, oV.tape.trans OO.out.tape, oV.output.trans OO.out.output, Nat.le_trans OO.out.size oV.size, fun k hk hb => (oV.block k (Nat.lt_of_lt_of_le hk OO.out.size) (by simp; omega)).trans (OO.out.block k hk hb)⟩
 exact bodyPost_ret (v := .tuple #[tmV y, .int .i64 y.d, .bool true]) (by simp [results, Tryz.results143, go_sem, v0, v1, v2]) rfl ⟨l', rfl, QV, hp2, hl2, hH2, OV⟩
theorem PI.ext' {p q : PI} (h1 : p.a = q.a) (h2 : p.l = q.l) : p = q := by cases p; cases q; simp only at h1 h2; subst h1; subst h2; rfl
instance : DecidableEq PI := fun p q => if h : p.a = q.a ∧ p.l = q.l then isTrue (PI.ext' h.1 h.2) else isFalse (fun e => h (by rw [e]; exact ⟨rfl, rfl⟩))
def offP (p : PI) (l : List Tw) : List Tw := l.filter (fun y => decide (y.p ≠ p))
theorem vbH {p : PI} {l : List Tw} (h : ∀ y ∈ l, y.p ≠ p) : offP p l = l := List.filter_eq_self.2 (fun y hy => by simpa using h y hy)
theorem tk_eq {x y : Tw} (hx : x.k = 3) (hy : y.k = 3) : x.tk = y.tk ↔ x.p = y.p := by
 constructor
 ·intro h; injection h
 ·intro h; unfold Tw.tk; rw [hx, hy, h]
theorem vfB {l l' : List Tw} {x : Tw} (hx : ∀ y ∈ l', y.p ≠ x.p) (h : (l' ++ [x]).Perm l) : l'.Perm (offP x.p l) := by
 have h2 := h.filter (fun y => decide (y.p ≠ x.p))
 rw [List.filter_append] at h2
 have e1 : l'.filter (fun y => decide (y.p ≠ x.p)) = l' := vbH hx
 rw [e1] at h2
 have e3 : [x].filter (fun y => decide (y.p ≠ x.p)) = [] := by simp
 rw [e3, List.append_nil] at h2
 exact h2
theorem vlM {l : List Tw} {i : Nat} (hi : i < l.length) (x : Tw) (hp : x.p = l[i].p) (hd : ∀ j (h : j < l.length), l[j].p = l[i].p → j = i) : (l.set i x).Perm (x :: offP x.p l) := by
 have e : l = l.take i ++ l[i] :: l.drop (i + 1) := by rw [List.getElem_cons_drop, List.take_append_drop]
 have e1 : ∀ y ∈ l.take i, y.p ≠ x.p := fun y hy => by
  obtain ⟨j, hj, rfl⟩ := List.getElem_of_mem hy
  rw [List.length_take] at hj
  rw [List.getElem_take, hp]
  exact fun e => by have := hd j (by omega) e; omega
 have e2 : ∀ y ∈ l.drop (i + 1), y.p ≠ x.p := fun y hy => by
  obtain ⟨j, hj, rfl⟩ := List.getElem_of_mem hy
  rw [List.length_drop] at hj
  rw [List.getElem_drop, hp]
  exact fun e => by have := hd _ (by omega) e; omega
 have e3 : offP x.p l = l.take i ++ l.drop (i + 1) := by
  conv => lhs; rw [e]
  unfold offP
  rw [List.filter_append, List.filter_cons, if_neg (by simp [hp])]
  congr 1
  ·exact vbH e1
  ·exact vbH e2
 rw [e3, List.set_eq_take_append_cons_drop, if_pos hi]
 exact List.perm_middle
theorem vnM {l : List Tw} {i : Nat} (hi : i < l.length) (x : Tw) : fT (l.set i x) i = x ∧ ∀ k, k ≠ i → fT (l.set i x) k = fT l k := by
 refine ⟨by rw [fT_at (by rw [List.length_set]; exact hi), List.getElem_set_self], fun k hk => ?_⟩
 unfold fT
 rw [List.getD_eq_getElem?_getD, List.getD_eq_getElem?_getD, List.getElem?_set_ne (fun e => hk e.symm)]
theorem PlOf.set_ {f : Tk → Option Nat} {l : List Tw} (h : PlOf f l) {i : Nat} (hi : i < l.length) (x : Tw) (e : x.tk = l[i].tk) : PlOf f (l.set i x) := by
 have hg : ∀ k (hk : k < (l.set i x).length), (l.set i x)[k].tk = (l[k]'(by rw [List.length_set] at hk; exact hk)).tk := fun k hk => by
  rw [List.getElem_set]
  split
  ·next e2 => subst e2; exact e
  ·rfl
 constructor
 ·intro k hk
  rw [hg]
  exact h.at_ k _
 ·intro t ht
  refine h.no t (fun k hk => ?_)
  have := ht k (by rw [List.length_set]; exact hk)
  rw [hg] at this
  exact this
theorem Own.putDue {w : World} {B g n c : Nat} {l : List Tw} (h : Own w B 337 4 Tw.enc (.slice (some ⟨g, 0, none⟩) n c) l) {i : Nat} (hi : i < l.length) (x : Tw) (ht : x.tk = l[i].tk) : Own (w.setCell ⟨g, i * 4 + 3, none⟩ (.int .i64 x.d)) B 337 4 Tw.enc (.slice (some ⟨g, 0, none⟩) n c) (l.set i x) := by
 have h2 := h.putTw hi x
 have e : x.k = l[i].k ∧ x.p = l[i].p := by unfold Tw.tk at ht; injection ht with e1 e2; exact ⟨e1, e2⟩
 obtain ⟨b, off, hA, x0, x1, x2, x3⟩ := tw_at (h.rdAt (by decide) Tw.len) hi
 injection hA with hA
 injection hA with e1 e2
 subst e1
 subst e2
 rw [Nat.zero_add] at x0 x1 x2
 rw [← e.1] at x0
 rw [← e.2] at x1 x2
 obtain ⟨cur, hB⟩ := h.blk4
 rw [hB.cell] at x0 x1 x2
 have hid : ∀ (k : Nat) (u : Value), cur[k]? = some u → cur.setIfInBounds k u = cur := fun k u hu => by
  obtain ⟨hk, e⟩ := Array.getElem?_eq_some_iff.1 hu
  apply Array.ext_getElem?
  intro j
  rw [Array.getElem?_setIfInBounds]
  split
  ·next e2 => subst e2; exact hu.symm
  ·rfl
 have hB' := (((hB.set_ (i * 4) (.int .i64 x.k)).set_ (i * 4 + 1) (.int .u32 (x.p.a : Int))).set_ (i * 4 + 2) (.int .i64 x.p.l)).set_ (i * 4 + 3) (.int .i64 x.d)
 rw [hid _ _ x0, hid _ _ x1, hid _ _ x2] at hB'
 have hS := hB.set_ (i * 4 + 3) (.int .i64 x.d)
 exact h2.lie (Eq.trans hS hB'.symm)
end

end Go.Proofs.YtgopnfacklmkaaaGreatDoor
