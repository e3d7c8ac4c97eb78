/- Lemmas and contracts for the theorem of this claim: TrI, TrJ. -/
import Derived.Test.YtgopnfacklmkaaaGreatDoorZzAw
set_option linter.all false
set_option maxHeartbeats 16000000
namespace Go.Proofs.YtgopnfacklmkaaaGreatDoor
section
open Go.RowKit
attribute [local go_sem] Oper.semAt_some
theorem vcR (w : World) : (binOp .eql 328 (.pointer none) (.pointer none)).run Tryz.prog w = .ok (.bool true) w := by kernel_rfl
theorem vci (w : World) (b : Nat) : (binOp .eql 328 (.pointer (some ⟨b, 0, none⟩)) (.pointer none)).run Tryz.prog w = .ok (.bool false) w := by kernel_rfl
def HangPost (w : World) (a0 a1 : Nat) (q : Pn) (v : Int) (s : Tr) (w' : World) : Prop :=
 ∃ (b1 b2 : Nat) (W : World), w.heap.size ≤ b1 ∧ w.heap.size ≤ b2 ∧ b1 ≠ b2 ∧ Only s.bs w W ∧ TM W (hangT q v b1 b2 s) ∧ w'.heap = (W.setCell ⟨a0, a1, none⟩ (hangT q v b1 b2 s).ptr).heap ∧ w'.os = W.os ∧ w'.tape = W.tape ∧ w'.output = W.output
set_option maxRecDepth 100000 in
theorem vmg (a0 a1 : Nat) (ty : TypeId) (cs : Array Value) (q : Pn) (v : Int) (s : Tr) (w : World) (hA : Blk w a0 ty cs) (hc : cs[a1]? = some s.ptr) (hM : TM w s) (hn : a0 ∉ s.bs) (hnd : s.bs.Nodup) (hq : q.ok) (hwf : s.Wf)
  (hk : ∀ b p u h x y, s = .node b p u h x y → p = q ∨ ¬ p.holds q) :
  Calls Tryz.prog 261 #[.pointer (some ⟨a0, a1, none⟩), .agg #[.int .u32 q.a, .int .i64 q.l], .int .i64 v] w fun e w' => e = .returned (.tuple #[]) ∧ HangPost w a0 a1 q v s w' := by
 have Hq := Lib.hid hq
 have hql := hq.2.1
 have h1 := vcR
 have h2 := vci
 have ht1 := vbX
 have hAlt := hA.lt
 obtain ⟨W, hW, kW, B0, B1⟩ : ∃ W, (w.alloc (.cells #[.int .u32 q.a, .int .i64 q.l] 39)).alloc (.cells #[.int .u32 q.a, .int .i64 q.l, .int .i64 v, .bool true, .pointer none, .pointer none] 379) = W ∧ Kp w W ∧ Blk W w.heap.size 39 #[.int .u32 q.a, .int .i64 q.l] ∧ Blk W (w.heap.size + 1) 379 #[.int .u32 q.a, .int .i64 q.l, .int .i64 v, .bool true, .pointer none, .pointer none] :=
  ⟨_, rfl, ((Kp.refl _).alloc _).alloc _, (Blk.new w _ _).alloc _, Blk.new1 w _ _ _⟩
 have hsz := kW.size
 have cA : w.cell? ⟨a0, a1, none⟩ = some s.ptr := (hA.cell a1).trans hc
 have A1 := hA.keep kW
 have cA1 : W.cell? ⟨a0, a1, none⟩ = some s.ptr := kW.cell cA
 have zA1 : W.frozen? ⟨a0, a1, none⟩ = false := A1.frozen a1
 have Hc := Lib.hid hc
 clear hc hq
 cases s with
 | nil =>
  have cA' : w.cell? ⟨a0, a1, none⟩ = some (.pointer none) := cA
  have cA1' : W.cell? ⟨a0, a1, none⟩ = some (.pointer none) := cA1
  clear cA cA1
  go_enter Tryz.func261, Tryz.ntmps261
  go_wp2_with fail
  go_end0
  refine ⟨rfl, w.heap.size + 1, w.heap.size + 2, W, by omega, by omega, by omega, Only.of_kp kW, ⟨B1, trivial, trivial⟩, rfl, rfl, rfl, rfl⟩
 | node b p u h x y =>
  have cA' : w.cell? ⟨a0, a1, none⟩ = some (.pointer (some ⟨b, 0, none⟩)) := cA
  have cA1' : W.cell? ⟨a0, a1, none⟩ = some (.pointer (some ⟨b, 0, none⟩)) := cA1
  clear cA cA1
  have hp := hwf.1
  have hpl := hp.2.1
  obtain ⟨N, Mx, My⟩ := hM
  have N1 := N.keep kW
  have hbA : b ≠ a0 := fun e => hn (by simp [Tr.bs, e])
  have hbl := N.lt
  have Hnd := Lib.hid (show b ∉ x.bs ∧ b ∉ y.bs by simp only [Tr.bs, List.cons_append, List.nodup_cons, List.mem_append, not_or] at hnd; exact hnd.1)
  have n0 : W.cell? ⟨b, 0, none⟩ = some (.int .u32 p.a) := N1.cell 0
  have n1 : W.cell? ⟨b, 1, none⟩ = some (.int .i64 p.l) := N1.cell 1
  have n2 : W.cell? ⟨b, 2, none⟩ = some (.int .i64 u) := N1.cell 2
  have n3 : W.cell? ⟨b, 3, none⟩ = some (.bool h) := N1.cell 3
  have q0 : W.cell? ⟨w.heap.size, 0, none⟩ = some (.int .u32 q.a) := B0.cell 0
  have q1 : W.cell? ⟨w.heap.size, 1, none⟩ = some (.int .i64 q.l) := B0.cell 1
  have z2 := N1.frozen 2
  have z3 := N1.frozen 3
  have Hk := Lib.hid (hk b p u h x y rfl)
  clear hk
  by_cases e : p = q
  ·subst e
   go_enter Tryz.func261, Tryz.ntmps261
   go_wp2_with fail
   go_quiet (fail)
   go_wp2_with fail
   go_end0
   refine ⟨rfl, ?_⟩
   have E : hangT p v (w.heap.size + 1) (w.heap.size + 2) (.node b p u h x y) = .node b p v true x y := by simp [hangT]
   have NB := ((N1.drewN nq).set_ 2 (.int .i64 v)).set_ 3 (.bool true)
   have OB : Only (Tr.node b p u h x y).bs w (((W.drewN nq).setCell ⟨b, 2, none⟩ (.int .i64 v)).setCell ⟨b, 3, none⟩ (.bool true)) := ((Only.of_kp (kW.drewN nq)).setCell (.inl (by simp [Tr.bs])) _).setCell (.inl (by simp [Tr.bs])) _
   have OB1 : Only [b] w (((W.drewN nq).setCell ⟨b, 2, none⟩ (.int .i64 v)).setCell ⟨b, 3, none⟩ (.bool true)) := ((Only.of_kp (kW.drewN nq)).setCell (.inl (by simp)) _).setCell (.inl (by simp)) _
   have AB := hA.only OB hn
   refine ⟨w.heap.size + 1, w.heap.size + 2, _, by omega, by omega, by omega, OB, ?_, ?_, rfl, rfl, rfl⟩
   ·rw [E]
    exact ⟨NB, Mx.only OB1 (fun c hc e => by simp at e; subst e; exact Hnd.out.1 hc), My.only OB1 (fun c hc e => by simp at e; subst e; exact Hnd.out.2 hc)⟩
   ·rw [E]
    exact (voK AB Hc.out).symm
  ·have hne := fun w => vdk w e
   have He := Lib.hid e; clear e
   have hcm := Lib.hid (viN (p := p) (q := q) hp)
   have hcl := hcm.out.2.1
   have Hp := Lib.hid hp; clear hp
   have hpne := voJ
   go_enter Tryz.func261, Tryz.ntmps261
   go_wp2_with fail
   go_quiet (fail)
   go_upto_region 3 with (fail)
   go_cut [8, 9] from 18 to 26 (fun s8 s9 wx => ∃ c, s8 = .pointer (some ⟨c, 0, none⟩) ∧ s9 = .int .i64 0 ∧ W.heap.size ≤ c ∧ Kp W wx ∧ Blk wx c 39 #[.int .u32 (p.com q).a, .int .i64 (p.com q).l])
   case first =>
    go_region_held3 (fun w' => w'.cell? ⟨b, 0, none⟩ = some (.int .u32 p.a) ∧ w'.cell? ⟨b, 1, none⟩ = some (.int .i64 p.l) ∧ w'.cell? ⟨w.heap.size, 0, none⟩ = some (.int .u32 q.a) ∧ w'.cell? ⟨w.heap.size, 1, none⟩ = some (.int .i64 q.l))
     (first | exact ⟨Ka.cell n0, Ka.cell n1, Ka.cell q0, Ka.cell q1⟩ | exact ⟨(Ka.alloc _).cell n0, (Ka.alloc _).cell n1, (Ka.alloc _).cell q0, (Ka.alloc _).cell q1⟩ | exact ⟨((Ka.setCell (Nat.le_refl _) _).setCell (Nat.le_refl _) _).cell n0, ((Ka.setCell (Nat.le_refl _) _).setCell (Nat.le_refl _) _).cell n1, ((Ka.setCell (Nat.le_refl _) _).setCell (Nat.le_refl _) _).cell q0, ((Ka.setCell (Nat.le_refl _) _).setCell (Nat.le_refl _) _).cell q1⟩ | go_keep)
     (first | (go_at_call 301; refine (vik p q _ Hp.out Hq.out).mono ?_; rintro e wa ⟨rfl, hKa⟩; (first | (have Ka : Kp W wa := ((Kp.refl W).drewN _).drew.trans hKa) | (have Ka : Kp W wa := (((Kp.refl W).drewN _).drew.alloc _).trans hKa; have Bz : Blk wa W.heap.size 39 #[.int .u32 0, .int .i64 0] := Blk.keep (Blk.new ((W.drewN _).drew) _ _) hKa; have s0 : wa.cell? ⟨W.heap.size, 0, none⟩ = some (.int .u32 0) := Bz.cell 0; have s1 : wa.cell? ⟨W.heap.size, 1, none⟩ = some (.int .i64 0) := Bz.cell 1; have s2 := Bz.frozen 0; have s3 := Bz.frozen 1))))
    all_goals
     go_wp2_with fail
     go_meet
    case rel => exact ⟨_, rfl, rfl, Ka.size, Ka.alloc _, Blk.new wa _ _⟩
    case rel => exact ⟨_, rfl, rfl, Nat.le_refl _, (Ka.setCell (Nat.le_refl _) _).setCell (Nat.le_refl _) _, (Bz.set_ 0 _).set_ 1 _⟩
   case rest =>
    obtain ⟨c, rfl, rfl, hcW, Kc, C⟩ := hcut
    have kc := kW.trans Kc
    have D0 := B0.keep Kc
    have D1 := B1.keep Kc
    have DN := N.keep kc
    have DA := hA.keep kc
    have hs1 := Kc.size
    have hs2 := D1.lt
    have hs3 := C.lt
    have c0 : wc.cell? ⟨c, 0, none⟩ = some (.int .u32 (p.com q).a) := C.cell 0
    have c1 : wc.cell? ⟨c, 1, none⟩ = some (.int .i64 (p.com q).l) := C.cell 1
    clear n0 n1 n2 n3 q0 q1 z2 z3 zA1 cA1' cA' hW
    have q0 : wc.cell? ⟨w.heap.size, 0, none⟩ = some (.int .u32 q.a) := D0.cell 0
    have q1 : wc.cell? ⟨w.heap.size, 1, none⟩ = some (.int .i64 q.l) := D0.cell 1
    by_cases hcq : p.com q = q
    ·have hd : decide (p.com q = q) = true := by simp [hcq]
     have Hcq := Lib.hid hcq; clear hcq
     rcases vaI p.a (p.com q).l with hb | hb
     ·have Hb := Lib.hid hb; clear hb
      go_wp2_with fail
      refine vau 13 (by kernel_rfl) (by kernel_rfl) (fun V hV => ?_)
      have KV : Kp wc V := by rw [hV]; exact (Kp.refl _).drew
      have N3 := DN.keep KV
      have C3 := C.keep KV
      have L3 := D1.keep KV
      have A3 := DA.keep KV
      clear hV q0 q1 c0 c1
      have n0 : V.cell? ⟨b, 0, none⟩ = some (.int .u32 p.a) := N3.cell 0
      have c1 : V.cell? ⟨c, 1, none⟩ = some (.int .i64 (p.com q).l) := C3.cell 1
      have l0 : V.cell? ⟨w.heap.size + 1, 4, none⟩ = some (.pointer none) := L3.cell 4
      have z0 := L3.frozen 4
      have zA := A3.frozen a1
      have cA : V.cell? ⟨a0, a1, none⟩ = some (.pointer (some ⟨b, 0, none⟩)) := (A3.cell a1).trans Hc.out
      simp only [List.take_succ_cons, List.take_zero, List.drop_succ_cons, List.drop_zero]
      repeat still_step
      still_call (by refine (vbk p.a (p.com q).l _ Hp.out.1 hcl).mono ?_; rintro e w' ⟨rfl, rfl⟩; rw [Hb.out]; exact ⟨rfl, rfl⟩)
      repeat still_step
      refine wpStill_nil ?_
      go_wp2_with fail
      go_end0
      have k3 : Kp w (V.setCell ⟨w.heap.size + 1, 4, none⟩ (.pointer (some ⟨b, 0, none⟩))) := (kc.trans KV).setCell (by simp) _
      have E : hangT q v (w.heap.size + 1) (w.heap.size + 2) (.node b p u h x y) = .node (w.heap.size + 1) q v true (.node b p u h x y) .nil := by
       have hb := Hb.out
       rw [Hcq.out] at hb
       simp [hangT, He.out, Hcq.out, hb]
      refine ⟨rfl, w.heap.size + 1, w.heap.size + 2, _, by omega, by omega, by omega, Only.of_kp k3, ?_, by rw [E]; rfl, rfl, rfl, rfl⟩
      rw [E]
      exact ⟨L3.set_ 4 _, ⟨N.keep k3, Mx.keep k3, My.keep k3⟩, trivial⟩
     ·have Hb := Lib.hid hb; clear hb
      go_wp2_with fail
      refine vau 13 (by kernel_rfl) (by kernel_rfl) (fun V hV => ?_)
      have KV : Kp wc V := by rw [hV]; exact (Kp.refl _).drew
      have N3 := DN.keep KV
      have C3 := C.keep KV
      have L3 := D1.keep KV
      have A3 := DA.keep KV
      clear hV q0 q1 c0 c1
      have n0 : V.cell? ⟨b, 0, none⟩ = some (.int .u32 p.a) := N3.cell 0
      have c1 : V.cell? ⟨c, 1, none⟩ = some (.int .i64 (p.com q).l) := C3.cell 1
      have l0 : V.cell? ⟨w.heap.size + 1, 5, none⟩ = some (.pointer none) := L3.cell 5
      have z0 := L3.frozen 5
      have zA := A3.frozen a1
      have cA : V.cell? ⟨a0, a1, none⟩ = some (.pointer (some ⟨b, 0, none⟩)) := (A3.cell a1).trans Hc.out
      simp only [List.take_succ_cons, List.take_zero, List.drop_succ_cons, List.drop_zero]
      repeat still_step
      still_call (by refine (vbk p.a (p.com q).l _ Hp.out.1 hcl).mono ?_; rintro e w' ⟨rfl, rfl⟩; rw [Hb.out]; exact ⟨rfl, rfl⟩)
      repeat still_step
      refine wpStill_nil ?_
      go_wp2_with fail
      go_end0
      have k3 : Kp w (V.setCell ⟨w.heap.size + 1, 5, none⟩ (.pointer (some ⟨b, 0, none⟩))) := (kc.trans KV).setCell (by simp) _
      have E : hangT q v (w.heap.size + 1) (w.heap.size + 2) (.node b p u h x y) = .node (w.heap.size + 1) q v true .nil (.node b p u h x y) := by
       have hb := Hb.out
       rw [Hcq.out] at hb
       simp [hangT, He.out, Hcq.out, hb]
      refine ⟨rfl, w.heap.size + 1, w.heap.size + 2, _, by omega, by omega, by omega, Only.of_kp k3, ?_, by rw [E]; rfl, rfl, rfl, rfl⟩
      rw [E]
      exact ⟨L3.set_ 5 _, trivial, ⟨N.keep k3, Mx.keep k3, My.keep k3⟩⟩
    ·have hd : decide (p.com q = q) = false := by simp [hcq]
     have hno : ¬ p.holds q := by rcases Hk.out with e | e; exact absurd e He.out; exact e
     have c1' : (p.com q).holds p := vcn
     have c2' := vdp Hp.out Hq.out
     have l1 : (p.com q).l < p.l := by
      rcases Nat.lt_or_ge (p.com q).l p.l with h1 | h1
      ·exact h1
      ·have e := vbe c1' (Nat.le_antisymm c1'.1 h1) Hp.out
       rw [e] at c2'; exact absurd c2' hno
     have l2 : (p.com q).l < q.l := by
      rcases Nat.lt_or_ge (p.com q).l q.l with h1 | h1
      ·exact h1
      ·exact absurd (vbe c2' (Nat.le_antisymm c2'.1 h1) Hq.out) hcq
     have Hbits := Lib.hid (vgO Hp.out Hq.out l1 l2)
     clear hno c1' c2' l1 l2
     have Hcq := Lib.hid hcq; clear hcq
     obtain ⟨X, hX, KX, OX⟩ : ∃ X, wc.alloc (.cells #[.int .u32 (p.com q).a, .int .i64 (p.com q).l, .int .i64 0, .bool false, .pointer none, .pointer none] 379) = X ∧ Kp wc X ∧ Blk X wc.heap.size 379 #[.int .u32 (p.com q).a, .int .i64 (p.com q).l, .int .i64 0, .bool false, .pointer none, .pointer none] := ⟨_, rfl, (Kp.refl _).alloc _, Blk.new wc _ _⟩
     rcases vaI q.a (p.com q).l with hb | hb
     ·have Hb := Lib.hid hb
      have Hb2 := Lib.hid (show bitN p.a (p.com q).l = 1 by have := vcm p.a (p.com q).l; have := Hbits.out; omega)
      clear hb
      go_wp2_with fail
      refine vau 10 (by kernel_rfl) (by kernel_rfl) (fun V hV => ?_)
      have KV : Kp X V := by rw [hV]; exact (Kp.refl _).drew
      have O3 := OX.keep KV
      have C3 := (C.keep KX).keep KV
      have P3 := (D0.keep KX).keep KV
      clear hV q0 q1 c0 c1 hX
      have q0 : V.cell? ⟨w.heap.size, 0, none⟩ = some (.int .u32 q.a) := P3.cell 0
      have c1 : V.cell? ⟨c, 1, none⟩ = some (.int .i64 (p.com q).l) := C3.cell 1
      have o0 : V.cell? ⟨wc.heap.size, 4, none⟩ = some (.pointer none) := O3.cell 4
      have z0 := O3.frozen 4
      simp only [List.take_succ_cons, List.take_zero, List.drop_succ_cons, List.drop_zero]
      repeat still_step
      still_call (by refine (vbk q.a (p.com q).l _ Hq.out.1 hcl).mono ?_; rintro e w' ⟨rfl, rfl⟩; rw [Hb.out]; exact ⟨rfl, rfl⟩)
      repeat still_step
      refine wpStill_nil ?_
      go_wp2_with fail
      refine vau 13 (by kernel_rfl) (by kernel_rfl) (fun U hU => ?_)
      have kv : Kp wc V := KX.trans KV
      have O4 : Blk U wc.heap.size 379 #[.int .u32 (p.com q).a, .int .i64 (p.com q).l, .int .i64 0, .bool false, .pointer (some ⟨w.heap.size + 1, 0, none⟩), .pointer none] := by rw [hU]; exact O3.set_ 4 _
      have KU : Kp wc U := by rw [hU]; exact (kv.setCell (Nat.le_refl _) _).drew
      have N4 := DN.keep KU
      have C4 := C.keep KU
      have A4 := DA.keep KU
      have L4 := D1.keep KU
      clear hU q0 c1 o0 z0
      have n0 : U.cell? ⟨b, 0, none⟩ = some (.int .u32 p.a) := N4.cell 0
      have c1 : U.cell? ⟨c, 1, none⟩ = some (.int .i64 (p.com q).l) := C4.cell 1
      have o0 : U.cell? ⟨wc.heap.size, 5, none⟩ = some (.pointer none) := O4.cell 5
      have z0 := O4.frozen 5
      have zA := A4.frozen a1
      have cA : U.cell? ⟨a0, a1, none⟩ = some (.pointer (some ⟨b, 0, none⟩)) := (A4.cell a1).trans Hc.out
      simp only [List.take_succ_cons, List.take_zero, List.drop_succ_cons, List.drop_zero]
      repeat still_step
      still_call (by refine (vbk p.a (p.com q).l _ Hp.out.1 hcl).mono ?_; rintro e w' ⟨rfl, rfl⟩; rw [Hb2.out]; exact ⟨rfl, rfl⟩)
      repeat still_step
      refine wpStill_nil ?_
      go_wp2_with fail
      go_end0
      have k3' : Kp wc (U.setCell ⟨wc.heap.size, 5, none⟩ (.pointer (some ⟨b, 0, none⟩))) := KU.setCell (Nat.le_refl _) _
      have k3 := kc.trans k3'
      have E : hangT q v (w.heap.size + 1) wc.heap.size (.node b p u h x y) = .node wc.heap.size (p.com q) 0 false (.node (w.heap.size + 1) q v true .nil .nil) (.node b p u h x y) := by
       simp [hangT, He.out, Hcq.out, Hb.out]
      refine ⟨rfl, w.heap.size + 1, wc.heap.size, _, by omega, kc.size, by omega, Only.of_kp k3, ?_, by rw [E]; rfl, rfl, rfl, rfl⟩
      rw [E]
      exact ⟨O4.set_ 5 _, ⟨D1.keep k3', trivial, trivial⟩, ⟨N.keep k3, Mx.keep k3, My.keep k3⟩⟩
     ·have Hb := Lib.hid hb
      have Hb2 := Lib.hid (show bitN p.a (p.com q).l = 0 by have := vcm p.a (p.com q).l; have := Hbits.out; omega)
      clear hb
      go_wp2_with fail
      refine vau 10 (by kernel_rfl) (by kernel_rfl) (fun V hV => ?_)
      have KV : Kp X V := by rw [hV]; exact (Kp.refl _).drew
      have O3 := OX.keep KV
      have C3 := (C.keep KX).keep KV
      have P3 := (D0.keep KX).keep KV
      clear hV q0 q1 c0 c1 hX
      have q0 : V.cell? ⟨w.heap.size, 0, none⟩ = some (.int .u32 q.a) := P3.cell 0
      have c1 : V.cell? ⟨c, 1, none⟩ = some (.int .i64 (p.com q).l) := C3.cell 1
      have o0 : V.cell? ⟨wc.heap.size, 5, none⟩ = some (.pointer none) := O3.cell 5
      have z0 := O3.frozen 5
      simp only [List.take_succ_cons, List.take_zero, List.drop_succ_cons, List.drop_zero]
      repeat still_step
      still_call (by refine (vbk q.a (p.com q).l _ Hq.out.1 hcl).mono ?_; rintro e w' ⟨rfl, rfl⟩; rw [Hb.out]; exact ⟨rfl, rfl⟩)
      repeat still_step
      refine wpStill_nil ?_
      go_wp2_with fail
      refine vau 13 (by kernel_rfl) (by kernel_rfl) (fun U hU => ?_)
      have kv : Kp wc V := KX.trans KV
      have O4 : Blk U wc.heap.size 379 #[.int .u32 (p.com q).a, .int .i64 (p.com q).l, .int .i64 0, .bool false, .pointer none, .pointer (some ⟨w.heap.size + 1, 0, none⟩)] := by rw [hU]; exact O3.set_ 5 _
      have KU : Kp wc U := by rw [hU]; exact (kv.setCell (Nat.le_refl _) _).drew
      have N4 := DN.keep KU
      have C4 := C.keep KU
      have A4 := DA.keep KU
      have L4 := D1.keep KU
      clear hU q0 c1 o0 z0
      have n0 : U.cell? ⟨b, 0, none⟩ = some (.int .u32 p.a) := N4.cell 0
      have c1 : U.cell? ⟨c, 1, none⟩ = some (.int .i64 (p.com q).l) := C4.cell 1
      have o0 : U.cell? ⟨wc.heap.size, 4, none⟩ = some (.pointer none) := O4.cell 4
      have z0 := O4.frozen 4
      have zA := A4.frozen a1
      have cA : U.cell? ⟨a0, a1, none⟩ = some (.pointer (some ⟨b, 0, none⟩)) := (A4.cell a1).trans Hc.out
      simp only [List.take_succ_cons, List.take_zero, List.drop_succ_cons, List.drop_zero]
      repeat still_step
      still_call (by refine (vbk p.a (p.com q).l _ Hp.out.1 hcl).mono ?_; rintro e w' ⟨rfl, rfl⟩; rw [Hb2.out]; exact ⟨rfl, rfl⟩)
      repeat still_step
      refine wpStill_nil ?_
      go_wp2_with fail
      go_end0
      have k3' : Kp wc (U.setCell ⟨wc.heap.size, 4, none⟩ (.pointer (some ⟨b, 0, none⟩))) := KU.setCell (Nat.le_refl _) _
      have k3 := kc.trans k3'
      have E : hangT q v (w.heap.size + 1) wc.heap.size (.node b p u h x y) = .node wc.heap.size (p.com q) 0 false (.node b p u h x y) (.node (w.heap.size + 1) q v true .nil .nil) := by
       simp [hangT, He.out, Hcq.out, Hb.out]
      refine ⟨rfl, w.heap.size + 1, wc.heap.size, _, by omega, kc.size, by omega, Only.of_kp k3, ?_, by rw [E]; rfl, rfl, rfl, rfl⟩
      rw [E]
      exact ⟨O4.set_ 4 _, ⟨N.keep k3, Mx.keep k3, My.keep k3⟩, ⟨D1.keep k3', trivial, trivial⟩⟩
def TMb (w : World) (q : Pn) : Tr → Prop
 | .nil => True
 | .node b p v h x y => if p.holds q then (if p.l = q.l then True else if bitN q.a p.l = 0 then Blk w b 379 #[.int .u32 p.a, .int .i64 p.l, .int .i64 v, .bool h, x.ptr, y.ptr] ∧ TMb w q x ∧ TM w y else Blk w b 379 #[.int .u32 p.a, .int .i64 p.l, .int .i64 v, .bool h, x.ptr, y.ptr] ∧ TM w x ∧ TMb w q y) else True
theorem TMb.of {w : World} {q : Pn} : ∀ {t : Tr}, TM w t → TMb w q t
 | .nil, _ => trivial
 | .node b p v h x y, ⟨h0, hx, hy⟩ => by
  unfold TMb
  split
  ·split
   ·trivial
   ·split
    ·exact ⟨h0, TMb.of hx, hy⟩
    ·exact ⟨h0, hx, TMb.of hy⟩
  ·trivial
theorem TMb.only {bs : List Nat} {w w' : World} {q : Pn} (k : Only bs w w') : ∀ {t : Tr}, TMb w q t → (∀ b ∈ Tr.beside q t, b ∉ bs) → TMb w' q t
 | .nil, _, _ => trivial
 | .node b p v h x y, hm, hb => by
  unfold TMb at hm ⊢
  unfold Tr.beside at hb
  by_cases hh : p.holds q
  ·by_cases hl : p.l = q.l
   ·simp [hh, hl]
   ·by_cases hbit : bitN q.a p.l = 0
    ·simp only [hh, hl, hbit, if_true, if_false] at hm hb ⊢
     exact ⟨hm.1.only k (hb b (by simp)), TMb.only k hm.2.1 (fun c hc => hb c (by simp [hc])), hm.2.2.only k (fun c hc => hb c (by simp [hc]))⟩
    ·simp only [hh, hl, hbit, if_true, if_false] at hm hb ⊢
     exact ⟨hm.1.only k (hb b (by simp)), hm.2.1.only k (fun c hc => hb c (by simp [hc])), TMb.only k hm.2.2 (fun c hc => hb c (by simp [hc]))⟩
  ·simp [hh]
theorem vgw {q : Pn} {s : Tr} : ∀ {t : Tr}, s.ptr = (t.look q).ptr → (Tr.put q s t).ptr = t.ptr
 | .nil, h => h
 | .node b p v hh x y, h => by
  unfold Tr.look at h
  unfold Tr.put
  by_cases h1 : p.holds q
  ·by_cases h2 : p.l = q.l
   ·simp only [h1, h2, if_true] at h ⊢; exact h
   ·by_cases h3 : bitN q.a p.l = 0
    ·simp only [h1, h2, h3, if_true, if_false]; rfl
    ·simp only [h1, h2, h3, if_true, if_false]; rfl
  ·simp only [h1, if_false] at h ⊢; exact h
theorem vfb {w : World} {q : Pn} {s : Tr} : ∀ {t : Tr}, TMb w q t → TM w s → s.ptr = (t.look q).ptr → TM w (Tr.put q s t)
 | .nil, _, hs, _ => hs
 | .node b p v hh x y, hm, hs, h => by
  unfold TMb at hm
  unfold Tr.look at h
  unfold Tr.put
  by_cases h1 : p.holds q
  ·by_cases h2 : p.l = q.l
   ·simp only [h1, h2, if_true]; exact hs
   ·by_cases h3 : bitN q.a p.l = 0
    ·simp only [h1, h2, h3, if_true, if_false] at hm h ⊢
     refine ⟨?_, vfb hm.2.1 hs h, hm.2.2⟩
     rw [vgw h]; exact hm.1
    ·simp only [h1, h2, h3, if_true, if_false] at hm h ⊢
     refine ⟨?_, hm.2.1, vfb hm.2.2 hs h⟩
     rw [vgw h]; exact hm.1
  ·simp only [h1, if_false]; exact hs
theorem vat {q : Pn} {t : Tr} {b : Nat} (h : b ∈ Tr.beside q t) : b ∈ t.bs := (vaL q t).mem_iff.2 (List.mem_append.2 (.inl h))
theorem vaQ {q : Pn} {t : Tr} {b : Nat} (h : b ∈ (t.look q).bs) : b ∈ t.bs := (vaL q t).mem_iff.2 (List.mem_append.2 (.inr h))
theorem vcC {q : Pn} {t : Tr} (h : t.bs.Nodup) : (Tr.beside q t).Nodup ∧ (t.look q).bs.Nodup ∧ ∀ b ∈ Tr.beside q t, b ∉ (t.look q).bs := by
 have h1 := List.nodup_append.1 ((vaL q t).nodup_iff.1 h)
 exact ⟨h1.1, h1.2.1, fun b hb hc => h1.2.2 b hb b hc rfl⟩
theorem vgx {w : World} {q : Pn} {s : Tr} : ∀ {t : Tr} {A : Nat × Nat}, TMb w q t → A.1 ∉ t.bs → t.bs.Nodup → TM w s → (Tr.place q A t).1 ∉ s.bs →
  TM (w.setCell ⟨(Tr.place q A t).1, (Tr.place q A t).2, none⟩ s.ptr) (Tr.put q s t) ∧ ((Tr.place q A t = A ∧ Tr.put q s t = s) ∨ ((Tr.place q A t).1 ∈ Tr.beside q t ∧ (Tr.put q s t).ptr = t.ptr))
 | .nil, A, _, _, _, hs, hn => ⟨TM.only (bs := [A.1]) ((Only.refl _ _).setCell (.inl (by simp [Tr.place])) _) hs (fun b hb => by simp [Tr.place] at hn ⊢; intro e; subst e; exact hn hb), .inl ⟨rfl, rfl⟩⟩
 | .node b p v h x y, A, hm, hA, hnd, hs, hn => by
  have hb : b ∉ x.bs ∧ b ∉ y.bs ∧ x.bs.Nodup ∧ y.bs.Nodup ∧ ∀ c ∈ x.bs, c ∉ y.bs := by
   simp only [Tr.bs, List.cons_append, List.nodup_cons, List.mem_append, not_or, List.nodup_append] at hnd
   refine ⟨hnd.1.1, hnd.1.2, hnd.2.1, hnd.2.2.1, fun c hc hc' => hnd.2.2.2 c hc c hc' rfl⟩
  have top : ∀ B : Nat × Nat, B.1 ∉ s.bs → TM (w.setCell ⟨B.1, B.2, none⟩ s.ptr) s := fun B hB =>
   TM.only (bs := [B.1]) ((Only.refl _ _).setCell (.inl (by simp)) _) hs (fun c hc => by simp; intro e; subst e; exact hB hc)
  unfold Tr.put
  unfold TMb at hm
  by_cases hh : p.holds q
  ·by_cases hl : p.l = q.l
   ·simp only [Tr.place, hh, hl, if_true] at hn ⊢
    exact ⟨top A hn, .inl ⟨trivial, trivial⟩⟩
   ·by_cases hbit : bitN q.a p.l = 0
    ·simp only [Tr.place, Tr.beside, hh, hl, hbit, if_true, if_false] at hm hn ⊢
     obtain ⟨h0, hx, hy⟩ := hm
     obtain ⟨i1, i2⟩ := vgx (A := (b, 4)) hx hb.1 hb.2.2.1 hs hn
     have hin : (Tr.place q (b, 4) x).1 = b ∨ (Tr.place q (b, 4) x).1 ∈ x.bs := by
      rcases i2 with ⟨e, _⟩ | ⟨e, _⟩
      ·left; rw [e]
      ·exact .inr (vat e)
     have hy' : TM (w.setCell ⟨(Tr.place q (b, 4) x).1, (Tr.place q (b, 4) x).2, none⟩ s.ptr) y :=
      TM.only (bs := [(Tr.place q (b, 4) x).1]) ((Only.refl _ _).setCell (.inl (by simp)) _) hy (fun c hc => by
       simp only [List.mem_singleton]
       intro e; subst e
       rcases hin with e | e
       ·rw [e] at hc; exact hb.2.1 hc
       ·exact hb.2.2.2.2 _ e hc)
     refine ⟨⟨?_, i1, hy'⟩, .inr ⟨?_, rfl⟩⟩
     ·rcases i2 with ⟨e, e2⟩ | ⟨e, e2⟩
      ·rw [e, e2]
       exact h0.set_ 4 s.ptr
      ·rw [e2]
       exact h0.far (by simp only; intro e'; rw [← e'] at e; exact hb.1 (vat e)) _
     ·rcases i2 with ⟨e, _⟩ | ⟨e, _⟩
      ·rw [e]; simp
      ·simp [e]
    ·simp only [Tr.place, Tr.beside, hh, hl, hbit, if_true, if_false] at hm hn ⊢
     obtain ⟨h0, hx, hy⟩ := hm
     obtain ⟨i1, i2⟩ := vgx (A := (b, 5)) hy hb.2.1 hb.2.2.2.1 hs hn
     have hin : (Tr.place q (b, 5) y).1 = b ∨ (Tr.place q (b, 5) y).1 ∈ y.bs := by
      rcases i2 with ⟨e, _⟩ | ⟨e, _⟩
      ·left; rw [e]
      ·exact .inr (vat e)
     have hx' : TM (w.setCell ⟨(Tr.place q (b, 5) y).1, (Tr.place q (b, 5) y).2, none⟩ s.ptr) x :=
      TM.only (bs := [(Tr.place q (b, 5) y).1]) ((Only.refl _ _).setCell (.inl (by simp)) _) hx (fun c hc => by
       simp only [List.mem_singleton]
       intro e; subst e
       rcases hin with e | e
       ·rw [e] at hc; exact hb.1 hc
       ·exact hb.2.2.2.2 _ hc e)
     refine ⟨⟨?_, hx', i1⟩, .inr ⟨?_, rfl⟩⟩
     ·rcases i2 with ⟨e, e2⟩ | ⟨e, e2⟩
      ·rw [e, e2]
       exact h0.set_ 5 s.ptr
      ·rw [e2]
       exact h0.far (by simp only; intro e'; rw [← e'] at e; exact hb.2.1 (vat e)) _
     ·rcases i2 with ⟨e, _⟩ | ⟨e, _⟩
      ·rw [e]; simp
      ·simp [e]
  ·simp only [Tr.place, hh, if_false] at hn ⊢
   exact ⟨top A hn, .inl ⟨trivial, trivial⟩⟩
theorem TM.heap {w w' : World} (h : w'.heap = w.heap) : ∀ {t : Tr}, TM w t → TM w' t
 | .nil, _ => trivial
 | .node b p v hh x y, ⟨h0, hx, hy⟩ => ⟨by unfold Blk at *; rw [h]; exact h0, TM.heap h hx, TM.heap h hy⟩
structure TrieM (w : World) (tr : Nat) (t : Tr) (many : Int) : Prop where
 blk : Blk w tr 330 #[t.ptr, .int .i64 many, .bool true]
 tm : TM w t
 wf : t.Wf
 nd : t.bs.Nodup
 out : tr ∉ t.bs
theorem TrieM.only {w w' : World} {tr : Nat} {t : Tr} {many : Int} {bs : List Nat} (h : TrieM w tr t many) (k : Only bs w w') (h1 : tr ∉ bs) (h2 : ∀ b ∈ t.bs, b ∉ bs) : TrieM w' tr t many :=
 ⟨h.blk.only k h1, h.tm.only k h2, h.wf, h.nd, h.out⟩
theorem TrieM.keep {w w' : World} {tr : Nat} {t : Tr} {many : Int} (h : TrieM w tr t many) (k : Kp w w') : TrieM w' tr t many := ⟨h.blk.keep k, h.tm.keep k, h.wf, h.nd, h.out⟩
theorem TrieM.heap {w w' : World} {tr : Nat} {t : Tr} {many : Int} (h : TrieM w tr t many) (k : w'.heap = w.heap) : TrieM w' tr t many := ⟨by have := h.blk; unfold Blk at *; rw [k]; exact this, h.tm.heap k, h.wf, h.nd, h.out⟩
theorem voh {q : Pn} {v : Int} {b1 b2 : Nat} {s : Tr} (hn : s.bs.Nodup) (h1 : b1 ∉ s.bs) (h2 : b2 ∉ s.bs) (h12 : b1 ≠ b2) : (hangT q v b1 b2 s).bs.Nodup ∧ ∀ b ∈ (hangT q v b1 b2 s).bs, b = b1 ∨ b = b2 ∨ b ∈ s.bs := by
 cases s with
 | nil => simp [hangT, Tr.bs]
 | node b p u h x y =>
  simp only [hangT]
  split
  ·exact ⟨hn, fun c hc => .inr (.inr hc)⟩
  ·generalize hs : Tr.node b p u h x y = s at *
   split
   ·split
    ·simp only [Tr.bs, List.cons_append, List.nodup_cons, List.append_nil, List.nil_append, List.mem_cons]
     exact ⟨⟨h1, hn⟩, fun c hc => by rcases hc with hc | hc; exact .inl hc; exact .inr (.inr hc)⟩
    ·simp only [Tr.bs, List.cons_append, List.nodup_cons, List.append_nil, List.nil_append, List.mem_cons]
     exact ⟨⟨h1, hn⟩, fun c hc => by rcases hc with hc | hc; exact .inl hc; exact .inr (.inr hc)⟩
   ·split
    ·simp only [Tr.bs, List.cons_append, List.nodup_cons, List.append_nil, List.nil_append, List.mem_cons]
     refine ⟨⟨?_, h1, hn⟩, fun c hc => ?_⟩
     ·rintro (e | e); exact h12 e.symm; exact h2 e
     ·rcases hc with hc | hc | hc; exact .inr (.inl hc); exact .inl hc; exact .inr (.inr hc)
    ·simp only [Tr.bs, List.cons_append, List.nodup_cons, List.append_nil, List.nil_append, List.mem_cons, List.mem_append, List.nodup_append]
     refine ⟨⟨?_, hn, by simp, ?_⟩, fun c hc => ?_⟩
     ·rintro (e | e | e)
      ·exact h2 e
      ·exact h12 e.symm
      ·cases e
     ·rintro c hc d hd rfl
      simp at hd
      subst hd; exact h1 hc
     ·rcases hc with hc | hc | hc | hc
      ·exact .inr (.inl hc)
      ·exact .inr (.inr hc)
      ·exact .inl hc
      ·cases hc
theorem vmh {w w' : World} {tr : Nat} {q : Pn} {v : Int} {t : Tr} {many : Int} (h : TrieM w tr t many) (hq : q.ok) (hno : ∀ u, (q, u) ∉ t.rows) (hp : HangPost w (Tr.place q (tr, 0) t).1 (Tr.place q (tr, 0) t).2 q v (t.look q) w') :
  ∃ t', TrieM w' tr t' many ∧ Only (tr :: t.bs) w w' ∧ (∀ b ∈ t'.bs, b ∈ t.bs ∨ w.heap.size ≤ b) ∧ ∀ r : Pn × Int, r ∈ t'.rows ↔ r = (q, v) ∨ r ∈ t.rows := by
 obtain ⟨b1, b2, W, hb1, hb2, h12, hO, hT, e1, e2, e3, e4⟩ := hp
 obtain ⟨n1, n2, n3⟩ := vcC (q := q) h.nd
 have lt := h.tm.lt
 have hs := voh (q := q) (v := v) (b1 := b1) (b2 := b2) n2 (fun hc => by have := lt _ (vaQ hc); omega) (fun hc => by have := lt _ (vaQ hc); omega) h12
 have hb : TMb W q t := (TMb.of h.tm).only hO n3
 have hpl : (Tr.place q (tr, 0) t).1 = tr ∨ (Tr.place q (tr, 0) t).1 ∈ Tr.beside q t := by
  rcases vdj q t (tr, 0) with e | e
  ·left; rw [e]
  ·exact .inr e
 have htl := h.blk.lt
 have hplt : (Tr.place q (tr, 0) t).1 < w.heap.size := by
  rcases hpl with e | e
  ·rw [e]; exact htl
  ·exact lt _ (vat e)
 have hnp : (Tr.place q (tr, 0) t).1 ∉ (t.look q).bs := by
  rcases hpl with e | e
  ·rw [e]; exact fun hc => h.out (vaQ hc)
  ·exact n3 _ e
 have hps : (Tr.place q (tr, 0) t).1 ∉ (hangT q v b1 b2 (t.look q)).bs := fun hc => by
  rcases hs.2 _ hc with e | e | e
  ·omega
  ·omega
  ·exact hnp e
 obtain ⟨m1, m2⟩ := vgx (A := (tr, 0)) hb h.out h.nd hT hps
 have hB : Blk W tr 330 #[t.ptr, .int .i64 many, .bool true] := h.blk.only hO (fun hc => h.out (vaQ hc))
 have perm := vbV q (hangT q v b1 b2 (t.look q)) t
 have hsub : ∀ b ∈ (insT q v b1 b2 t).bs, b ∈ t.bs ∨ w.heap.size ≤ b := fun b hb => by
  rcases List.mem_append.1 (perm.mem_iff.1 hb) with hc | hc
  ·exact .inl (vat hc)
  ·rcases hs.2 _ hc with e | e | e
   ·right; omega
   ·right; omega
   ·exact .inl (vaQ e)
 obtain ⟨iw, ir⟩ := voe hq (v := v) (b1 := b1) (b2 := b2) h.wf hno
 refine ⟨insT q v b1 b2 t, ⟨?_, m1.heap e1, iw, ?_, ?_⟩, ?_, hsub, ir⟩
 ·have : Blk (W.setCell ⟨(Tr.place q (tr, 0) t).1, (Tr.place q (tr, 0) t).2, none⟩ (hangT q v b1 b2 (t.look q)).ptr) tr 330 #[(insT q v b1 b2 t).ptr, .int .i64 many, .bool true] := by
   rcases m2 with ⟨ea, eb⟩ | ⟨ea, eb⟩
   ·have ec : (insT q v b1 b2 t).ptr = (hangT q v b1 b2 (t.look q)).ptr := by unfold insT; rw [eb]
    rw [ec, ea]
    exact hB.set_ 0 _
   ·have ec : (insT q v b1 b2 t).ptr = t.ptr := eb
    rw [ec]
    exact hB.far (fun e' => by simp only at e'; rw [← e'] at ea; exact h.out (vat ea)) _
  unfold Blk at *
  rw [e1]; exact this
 ·refine perm.nodup_iff.2 (List.nodup_append.2 ⟨n1, hs.1, fun a ha b hb e => ?_⟩)
  subst e
  rcases hs.2 _ hb with e | e | e
  ·have := lt _ (vat ha); omega
  ·have := lt _ (vat ha); omega
  ·exact n3 _ ha e
 ·intro hc
  rcases hsub _ hc with e | e
  ·exact h.out e
  ·omega
 ·have hO' : Only (tr :: t.bs) w (W.setCell ⟨(Tr.place q (tr, 0) t).1, (Tr.place q (tr, 0) t).2, none⟩ (hangT q v b1 b2 (t.look q)).ptr) := by
   have hO2 : Only (tr :: t.bs) w W := ⟨hO.os, hO.tape, hO.output, hO.size, fun k hk hn => hO.block k hk (fun hc => hn (List.mem_cons.2 (.inr (vaQ hc))))⟩
   refine hO2.setCell (.inl ?_) _
   rcases hpl with e | e
   ·simp [e]
   ·exact List.mem_cons.2 (.inr (vat e))
  exact ⟨by rw [e2, hO.os], by rw [e3, hO.tape], by rw [e4, hO.output], by rw [e1]; exact hO'.size, fun k hk hn => by rw [e1]; exact hO'.block k hk hn⟩
theorem vkd {w w' : World} {tr b : Nat} {q : Pn} {u v : Int} {h : Bool} {x y t : Tr} {many : Int} (H : TrieM w tr t many) (hq : q.ok) (hl : t.look q = .node b q u true x y) (hO : Only [b] w w')
  (hB : Blk w' b 379 #[.int .u32 q.a, .int .i64 q.l, .int .i64 v, .bool h, x.ptr, y.ptr]) :
  TrieM w' tr (setT q v h t) many ∧ Only t.bs w w' ∧ (∀ c ∈ (setT q v h t).bs, c ∈ t.bs) ∧ ∀ r : Pn × Int, r ∈ (setT q v h t).rows ↔ (h = true ∧ r = (q, v)) ∨ (r.1 ≠ q ∧ r ∈ t.rows) := by
 obtain ⟨n1, n2, n3⟩ := vcC (q := q) H.nd
 have hbl : b ∈ (t.look q).bs := by rw [hl]; simp [Tr.bs]
 have hm := vby (q := q) H.tm
 rw [hl] at hm n2
 have hnd : b ∉ x.bs ∧ b ∉ y.bs := by
  simp only [Tr.bs, List.cons_append, List.nodup_cons, List.mem_append, not_or] at n2
  exact n2.1
 have e : setT q v h t = Tr.put q (.node b q v h x y) t := by simp [setT, hl]
 have hs : TM w' (.node b q v h x y) := ⟨hB, hm.2.1.only hO (fun c hc => by simp; intro e; subst e; exact hnd.1 hc), hm.2.2.only hO (fun c hc => by simp; intro e; subst e; exact hnd.2 hc)⟩
 have hb : TMb w' q t := (TMb.of H.tm).only hO (fun c hc => by simp; intro e; subst e; exact n3 _ hc hbl)
 have hp : (Tr.node b q v h x y).ptr = (t.look q).ptr := by rw [hl]; rfl
 have perm := vbV q (.node b q v h x y) t
 have hbs : (Tr.node b q v h x y).bs = (t.look q).bs := by rw [hl]; rfl
 rw [hbs] at perm
 have perm2 := perm.trans (vaL q t).symm
 obtain ⟨sw, sr⟩ := vjW hq (v := v) (h := h) H.wf ((vaV hq H.wf u).2 ⟨b, x, y, hl⟩)
 refine ⟨⟨?_, ?_, sw, ?_, ?_⟩, ?_, ?_, sr⟩
 ·rw [e, vgw hp]
  exact H.blk.only hO (by simp; intro e'; subst e'; exact H.out (vaQ hbl))
 ·rw [e]; exact vfb hb hs hp
 ·rw [e]; exact perm2.nodup_iff.2 H.nd
 ·rw [e]; exact fun hc => H.out (perm2.mem_iff.1 hc)
 ·exact ⟨hO.os, hO.tape, hO.output, hO.size, fun k hk hn => hO.block k hk (by simp; intro e'; subst e'; exact hn (vaQ hbl))⟩
 ·rw [e]; exact fun c hc => perm2.mem_iff.1 hc
end

end Go.Proofs.YtgopnfacklmkaaaGreatDoor
