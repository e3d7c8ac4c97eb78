/- The trie's hang: a prefix with a value is hung at its place. -/
import Derived.Test.YtfaiponmjjbgoaaDoorTrH
namespace Go.Proofs.YtfaiponmjjbgoaaDoor
open Go.RowKit
attribute [local go_sem] Oper.semAt_some

theorem ptr_is_nil (w : World) : (binOp .eql 55 (.pointer none) (.pointer none)).run Tryd.prog w = .ok (.bool true) w := by kernel_rfl
theorem ptr_not_nil (w : World) (b : Nat) : (binOp .eql 55 (.pointer (some ⟨b, 0, none⟩)) (.pointer none)).run Tryd.prog w = .ok (.bool false) w := by kernel_rfl

/-- What hang leaves: the new tree lies there, and its place points to it. -/
def HangPost (w : World) (a0 a1 : Nat) (q : Pn) (v : Int) (s : Tr) (w' : World) : Prop :=
  ∃ (b1 b2 : Nat) (W : World), w.heap.size ≤ b1 ∧ w.heap.size ≤ b2 ∧ b1 ≠ b2 ∧ Only s.bs w W ∧ TM W (hangT q v b1 b2 s) ∧ w'.heap = (W.setCell ⟨a0, a1, none⟩ (hangT q v b1 b2 s).ptr).heap ∧ w'.os = W.os ∧ w'.tape = W.tape ∧ w'.output = W.output

set_option maxRecDepth 100000 in
set_option maxHeartbeats 2000000 in
theorem hang_any (a0 a1 : Nat) (ty : TypeId) (cs : Array Value) (q : Pn) (v : Int) (s : Tr) (w : World) (hA : Blk w a0 ty cs) (hc : cs[a1]? = some s.ptr) (hM : TM w s) (hn : a0 ∉ s.bs) (hnd : s.bs.Nodup) (hq : q.ok) (hwf : s.Wf)
    (hk : ∀ b p u h x y, s = .node b p u h x y → p = q ∨ ¬ p.holds q) :
    Calls Tryd.prog 41 #[.pointer (some ⟨a0, a1, none⟩), .agg #[.int .u32 q.a, .int .i64 q.l], .int .i64 v] w fun e w' => e = .returned (.tuple #[]) ∧ HangPost w a0 a1 q v s w' := by
  have Hq := Lib.hid hq
  have hql := hq.2.1
  have h1 := ptr_is_nil
  have h2 := ptr_not_nil
  have ht1 := pfx_eq_t
  have hAlt := hA.lt
  obtain ⟨W, hW, kW, B0, B1⟩ : ∃ W, (w.alloc (.cells #[.int .u32 q.a, .int .i64 q.l] 29)).alloc (.cells #[.int .u32 q.a, .int .i64 q.l, .int .i64 v, .bool true, .pointer none, .pointer none] 87) = W ∧ Kp w W ∧ Blk W w.heap.size 29 #[.int .u32 q.a, .int .i64 q.l] ∧ Blk W (w.heap.size + 1) 87 #[.int .u32 q.a, .int .i64 q.l, .int .i64 v, .bool true, .pointer none, .pointer none] :=
    ⟨_, rfl, ((Kp.refl _).alloc _).alloc _, (Blk.new w _ _).alloc _, Blk.new1 w _ _ _⟩
  have hsz := kW.size
  have cA : w.cell? ⟨a0, a1, none⟩ = some s.ptr := (hA.cell a1).trans hc
  have A1 := hA.keep kW
  have cA1 : W.cell? ⟨a0, a1, none⟩ = some s.ptr := kW.cell cA
  have zA1 : W.frozen? ⟨a0, a1, none⟩ = false := A1.frozen a1
  have Hc := Lib.hid hc
  clear hc hq
  cases s with
  | nil =>
    have cA' : w.cell? ⟨a0, a1, none⟩ = some (.pointer none) := cA
    have cA1' : W.cell? ⟨a0, a1, none⟩ = some (.pointer none) := cA1
    clear cA cA1
    go_enter Tryd.func41, Tryd.ntmps41
    go_wp2_with fail
    go_end0
    refine ⟨rfl, w.heap.size + 1, w.heap.size + 2, W, by omega, by omega, by omega, Only.of_kp kW, ⟨B1, trivial, trivial⟩, rfl, rfl, rfl, rfl⟩
  | node b p u h x y =>
    have cA' : w.cell? ⟨a0, a1, none⟩ = some (.pointer (some ⟨b, 0, none⟩)) := cA
    have cA1' : W.cell? ⟨a0, a1, none⟩ = some (.pointer (some ⟨b, 0, none⟩)) := cA1
    clear cA cA1
    have hp := hwf.1
    have hpl := hp.2.1
    obtain ⟨N, Mx, My⟩ := hM
    have N1 := N.keep kW
    have hbA : b ≠ a0 := fun e => hn (by simp [Tr.bs, e])
    have hbl := N.lt
    have Hnd := Lib.hid (show b ∉ x.bs ∧ b ∉ y.bs by simp only [Tr.bs, List.cons_append, List.nodup_cons, List.mem_append, not_or] at hnd; exact hnd.1)
    have n0 : W.cell? ⟨b, 0, none⟩ = some (.int .u32 p.a) := N1.cell 0
    have n1 : W.cell? ⟨b, 1, none⟩ = some (.int .i64 p.l) := N1.cell 1
    have n2 : W.cell? ⟨b, 2, none⟩ = some (.int .i64 u) := N1.cell 2
    have n3 : W.cell? ⟨b, 3, none⟩ = some (.bool h) := N1.cell 3
    have q0 : W.cell? ⟨w.heap.size, 0, none⟩ = some (.int .u32 q.a) := B0.cell 0
    have q1 : W.cell? ⟨w.heap.size, 1, none⟩ = some (.int .i64 q.l) := B0.cell 1
    have z2 := N1.frozen 2
    have z3 := N1.frozen 3
    have Hk := Lib.hid (hk b p u h x y rfl)
    clear hk
    by_cases e : p = q
    · subst e
      go_enter Tryd.func41, Tryd.ntmps41
      go_wp2_with fail
      go_quiet (fail)
      go_wp2_with fail
      go_end0
      refine ⟨rfl, ?_⟩
      have E : hangT p v (w.heap.size + 1) (w.heap.size + 2) (.node b p u h x y) = .node b p v true x y := by simp [hangT]
      have NB := ((N1.drewN nq).set_ 2 (.int .i64 v)).set_ 3 (.bool true)
      have OB : Only (Tr.node b p u h x y).bs w (((W.drewN nq).setCell ⟨b, 2, none⟩ (.int .i64 v)).setCell ⟨b, 3, none⟩ (.bool true)) := ((Only.of_kp (kW.drewN nq)).setCell (.inl (by simp [Tr.bs])) _).setCell (.inl (by simp [Tr.bs])) _
      have OB1 : Only [b] w (((W.drewN nq).setCell ⟨b, 2, none⟩ (.int .i64 v)).setCell ⟨b, 3, none⟩ (.bool true)) := ((Only.of_kp (kW.drewN nq)).setCell (.inl (by simp)) _).setCell (.inl (by simp)) _
      have AB := hA.only OB hn
      refine ⟨w.heap.size + 1, w.heap.size + 2, _, by omega, by omega, by omega, OB, ?_, ?_, rfl, rfl, rfl⟩
      · rw [E]
        exact ⟨NB, Mx.only OB1 (fun c hc e => by simp at e; subst e; exact Hnd.out.1 hc), My.only OB1 (fun c hc e => by simp at e; subst e; exact Hnd.out.2 hc)⟩
      · rw [E]
        exact (set_id AB Hc.out).symm
    · have hne := fun w => pfx_eq_f w e
      have He := Lib.hid e; clear e
      have hcm := Lib.hid (com_ok (p := p) (q := q) hp)
      have hcl := hcm.out.2.1
      have Hp := Lib.hid hp; clear hp
      have hpne := pfx_ne
      go_enter Tryd.func41, Tryd.ntmps41
      go_wp2_with fail
      go_quiet (fail)
      go_upto_region 3 with (fail)
      go_cut [8, 9] from 18 to 26 (fun s8 s9 wx => ∃ c, s8 = .pointer (some ⟨c, 0, none⟩) ∧ s9 = .int .i64 0 ∧ W.heap.size ≤ c ∧ Kp W wx ∧ Blk wx c 29 #[.int .u32 (p.com q).a, .int .i64 (p.com q).l])
      case first =>
        go_region_held3 (fun w' => w'.cell? ⟨b, 0, none⟩ = some (.int .u32 p.a) ∧ w'.cell? ⟨b, 1, none⟩ = some (.int .i64 p.l) ∧ w'.cell? ⟨w.heap.size, 0, none⟩ = some (.int .u32 q.a) ∧ w'.cell? ⟨w.heap.size, 1, none⟩ = some (.int .i64 q.l))
          (first | exact ⟨Ka.cell n0, Ka.cell n1, Ka.cell q0, Ka.cell q1⟩ | exact ⟨(Ka.alloc _).cell n0, (Ka.alloc _).cell n1, (Ka.alloc _).cell q0, (Ka.alloc _).cell q1⟩ | exact ⟨((Ka.setCell (Nat.le_refl _) _).setCell (Nat.le_refl _) _).cell n0, ((Ka.setCell (Nat.le_refl _) _).setCell (Nat.le_refl _) _).cell n1, ((Ka.setCell (Nat.le_refl _) _).setCell (Nat.le_refl _) _).cell q0, ((Ka.setCell (Nat.le_refl _) _).setCell (Nat.le_refl _) _).cell q1⟩ | go_keep)
          (first | (go_at_call 51; refine (common_any p q _ Hp.out Hq.out).mono ?_; rintro e wa ⟨rfl, hKa⟩; (first | (have Ka : Kp W wa := ((Kp.refl W).drewN _).drew.trans hKa) | (have Ka : Kp W wa := (((Kp.refl W).drewN _).drew.alloc _).trans hKa; have Bz : Blk wa W.heap.size 29 #[.int .u32 0, .int .i64 0] := Blk.keep (Blk.new ((W.drewN _).drew) _ _) hKa; have s0 : wa.cell? ⟨W.heap.size, 0, none⟩ = some (.int .u32 0) := Bz.cell 0; have s1 : wa.cell? ⟨W.heap.size, 1, none⟩ = some (.int .i64 0) := Bz.cell 1; have s2 := Bz.frozen 0; have s3 := Bz.frozen 1))))
        all_goals
          go_wp2_with fail
          go_meet
        case rel => exact ⟨_, rfl, rfl, Ka.size, Ka.alloc _, Blk.new wa _ _⟩
        case rel => exact ⟨_, rfl, rfl, Nat.le_refl _, (Ka.setCell (Nat.le_refl _) _).setCell (Nat.le_refl _) _, (Bz.set_ 0 _).set_ 1 _⟩
      case rest =>
        obtain ⟨c, rfl, rfl, hcW, Kc, C⟩ := hcut
        have kc := kW.trans Kc
        have D0 := B0.keep Kc
        have D1 := B1.keep Kc
        have DN := N.keep kc
        have DA := hA.keep kc
        have hs1 := Kc.size
        have hs2 := D1.lt
        have hs3 := C.lt
        have c0 : wc.cell? ⟨c, 0, none⟩ = some (.int .u32 (p.com q).a) := C.cell 0
        have c1 : wc.cell? ⟨c, 1, none⟩ = some (.int .i64 (p.com q).l) := C.cell 1
        clear n0 n1 n2 n3 q0 q1 z2 z3 zA1 cA1' cA' hW
        have q0 : wc.cell? ⟨w.heap.size, 0, none⟩ = some (.int .u32 q.a) := D0.cell 0
        have q1 : wc.cell? ⟨w.heap.size, 1, none⟩ = some (.int .i64 q.l) := D0.cell 1
        by_cases hcq : p.com q = q
        · have hd : decide (p.com q = q) = true := by simp [hcq]
          have Hcq := Lib.hid hcq; clear hcq
          rcases bit_cases p.a (p.com q).l with hb | hb
          · have Hb := Lib.hid hb; clear hb
            go_wp2_with fail
            refine wp_tail 13 (by kernel_rfl) (by kernel_rfl) (fun V hV => ?_)
            have KV : Kp wc V := by rw [hV]; exact (Kp.refl _).drew
            have N3 := DN.keep KV
            have C3 := C.keep KV
            have L3 := D1.keep KV
            have A3 := DA.keep KV
            clear hV q0 q1 c0 c1
            have n0 : V.cell? ⟨b, 0, none⟩ = some (.int .u32 p.a) := N3.cell 0
            have c1 : V.cell? ⟨c, 1, none⟩ = some (.int .i64 (p.com q).l) := C3.cell 1
            have l0 : V.cell? ⟨w.heap.size + 1, 4, none⟩ = some (.pointer none) := L3.cell 4
            have z0 := L3.frozen 4
            have zA := A3.frozen a1
            have cA : V.cell? ⟨a0, a1, none⟩ = some (.pointer (some ⟨b, 0, none⟩)) := (A3.cell a1).trans Hc.out
            simp only [List.take_succ_cons, List.take_zero, List.drop_succ_cons, List.drop_zero]
            repeat still_step
            still_call (by refine (bit_any p.a (p.com q).l _ Hp.out.1 hcl).mono ?_; rintro e w' ⟨rfl, rfl⟩; rw [Hb.out]; exact ⟨rfl, rfl⟩)
            repeat still_step
            refine wpStill_nil ?_
            go_wp2_with fail
            go_end0
            have k3 : Kp w (V.setCell ⟨w.heap.size + 1, 4, none⟩ (.pointer (some ⟨b, 0, none⟩))) := (kc.trans KV).setCell (by simp) _
            have E : hangT q v (w.heap.size + 1) (w.heap.size + 2) (.node b p u h x y) = .node (w.heap.size + 1) q v true (.node b p u h x y) .nil := by
              have hb := Hb.out
              rw [Hcq.out] at hb
              simp [hangT, He.out, Hcq.out, hb]
            refine ⟨rfl, w.heap.size + 1, w.heap.size + 2, _, by omega, by omega, by omega, Only.of_kp k3, ?_, by rw [E]; rfl, rfl, rfl, rfl⟩
            rw [E]
            exact ⟨L3.set_ 4 _, ⟨N.keep k3, Mx.keep k3, My.keep k3⟩, trivial⟩
          · have Hb := Lib.hid hb; clear hb
            go_wp2_with fail
            refine wp_tail 13 (by kernel_rfl) (by kernel_rfl) (fun V hV => ?_)
            have KV : Kp wc V := by rw [hV]; exact (Kp.refl _).drew
            have N3 := DN.keep KV
            have C3 := C.keep KV
            have L3 := D1.keep KV
            have A3 := DA.keep KV
            clear hV q0 q1 c0 c1
            have n0 : V.cell? ⟨b, 0, none⟩ = some (.int .u32 p.a) := N3.cell 0
            have c1 : V.cell? ⟨c, 1, none⟩ = some (.int .i64 (p.com q).l) := C3.cell 1
            have l0 : V.cell? ⟨w.heap.size + 1, 5, none⟩ = some (.pointer none) := L3.cell 5
            have z0 := L3.frozen 5
            have zA := A3.frozen a1
            have cA : V.cell? ⟨a0, a1, none⟩ = some (.pointer (some ⟨b, 0, none⟩)) := (A3.cell a1).trans Hc.out
            simp only [List.take_succ_cons, List.take_zero, List.drop_succ_cons, List.drop_zero]
            repeat still_step
            still_call (by refine (bit_any p.a (p.com q).l _ Hp.out.1 hcl).mono ?_; rintro e w' ⟨rfl, rfl⟩; rw [Hb.out]; exact ⟨rfl, rfl⟩)
            repeat still_step
            refine wpStill_nil ?_
            go_wp2_with fail
            go_end0
            have k3 : Kp w (V.setCell ⟨w.heap.size + 1, 5, none⟩ (.pointer (some ⟨b, 0, none⟩))) := (kc.trans KV).setCell (by simp) _
            have E : hangT q v (w.heap.size + 1) (w.heap.size + 2) (.node b p u h x y) = .node (w.heap.size + 1) q v true .nil (.node b p u h x y) := by
              have hb := Hb.out
              rw [Hcq.out] at hb
              simp [hangT, He.out, Hcq.out, hb]
            refine ⟨rfl, w.heap.size + 1, w.heap.size + 2, _, by omega, by omega, by omega, Only.of_kp k3, ?_, by rw [E]; rfl, rfl, rfl, rfl⟩
            rw [E]
            exact ⟨L3.set_ 5 _, trivial, ⟨N.keep k3, Mx.keep k3, My.keep k3⟩⟩
        · have hd : decide (p.com q = q) = false := by simp [hcq]
          have hno : ¬ p.holds q := by rcases Hk.out with e | e; exact absurd e He.out; exact e
          have c1' : (p.com q).holds p := com_left
          have c2' := com_right Hp.out Hq.out
          have l1 : (p.com q).l < p.l := by
            rcases Nat.lt_or_ge (p.com q).l p.l with h1 | h1
            · exact h1
            · have e := holds_eq c1' (Nat.le_antisymm c1'.1 h1) Hp.out
              rw [e] at c2'; exact absurd c2' hno
          have l2 : (p.com q).l < q.l := by
            rcases Nat.lt_or_ge (p.com q).l q.l with h1 | h1
            · exact h1
            · exact absurd (holds_eq c2' (Nat.le_antisymm c2'.1 h1) Hq.out) hcq
          have Hbits := Lib.hid (com_bits Hp.out Hq.out l1 l2)
          clear hno c1' c2' l1 l2
          have Hcq := Lib.hid hcq; clear hcq
          obtain ⟨X, hX, KX, OX⟩ : ∃ X, wc.alloc (.cells #[.int .u32 (p.com q).a, .int .i64 (p.com q).l, .int .i64 0, .bool false, .pointer none, .pointer none] 87) = X ∧ Kp wc X ∧ Blk X wc.heap.size 87 #[.int .u32 (p.com q).a, .int .i64 (p.com q).l, .int .i64 0, .bool false, .pointer none, .pointer none] := ⟨_, rfl, (Kp.refl _).alloc _, Blk.new wc _ _⟩
          rcases bit_cases q.a (p.com q).l with hb | hb
          · have Hb := Lib.hid hb
            have Hb2 := Lib.hid (show bitN p.a (p.com q).l = 1 by have := bit_lt p.a (p.com q).l; have := Hbits.out; omega)
            clear hb
            go_wp2_with fail
            refine wp_tail 10 (by kernel_rfl) (by kernel_rfl) (fun V hV => ?_)
            have KV : Kp X V := by rw [hV]; exact (Kp.refl _).drew
            have O3 := OX.keep KV
            have C3 := (C.keep KX).keep KV
            have P3 := (D0.keep KX).keep KV
            clear hV q0 q1 c0 c1 hX
            have q0 : V.cell? ⟨w.heap.size, 0, none⟩ = some (.int .u32 q.a) := P3.cell 0
            have c1 : V.cell? ⟨c, 1, none⟩ = some (.int .i64 (p.com q).l) := C3.cell 1
            have o0 : V.cell? ⟨wc.heap.size, 4, none⟩ = some (.pointer none) := O3.cell 4
            have z0 := O3.frozen 4
            simp only [List.take_succ_cons, List.take_zero, List.drop_succ_cons, List.drop_zero]
            repeat still_step
            still_call (by refine (bit_any q.a (p.com q).l _ Hq.out.1 hcl).mono ?_; rintro e w' ⟨rfl, rfl⟩; rw [Hb.out]; exact ⟨rfl, rfl⟩)
            repeat still_step
            refine wpStill_nil ?_
            go_wp2_with fail
            refine wp_tail 13 (by kernel_rfl) (by kernel_rfl) (fun U hU => ?_)
            have kv : Kp wc V := KX.trans KV
            have O4 : Blk U wc.heap.size 87 #[.int .u32 (p.com q).a, .int .i64 (p.com q).l, .int .i64 0, .bool false, .pointer (some ⟨w.heap.size + 1, 0, none⟩), .pointer none] := by rw [hU]; exact O3.set_ 4 _
            have KU : Kp wc U := by rw [hU]; exact (kv.setCell (Nat.le_refl _) _).drew
            have N4 := DN.keep KU
            have C4 := C.keep KU
            have A4 := DA.keep KU
            have L4 := D1.keep KU
            clear hU q0 c1 o0 z0
            have n0 : U.cell? ⟨b, 0, none⟩ = some (.int .u32 p.a) := N4.cell 0
            have c1 : U.cell? ⟨c, 1, none⟩ = some (.int .i64 (p.com q).l) := C4.cell 1
            have o0 : U.cell? ⟨wc.heap.size, 5, none⟩ = some (.pointer none) := O4.cell 5
            have z0 := O4.frozen 5
            have zA := A4.frozen a1
            have cA : U.cell? ⟨a0, a1, none⟩ = some (.pointer (some ⟨b, 0, none⟩)) := (A4.cell a1).trans Hc.out
            simp only [List.take_succ_cons, List.take_zero, List.drop_succ_cons, List.drop_zero]
            repeat still_step
            still_call (by refine (bit_any p.a (p.com q).l _ Hp.out.1 hcl).mono ?_; rintro e w' ⟨rfl, rfl⟩; rw [Hb2.out]; exact ⟨rfl, rfl⟩)
            repeat still_step
            refine wpStill_nil ?_
            go_wp2_with fail
            go_end0
            have k3' : Kp wc (U.setCell ⟨wc.heap.size, 5, none⟩ (.pointer (some ⟨b, 0, none⟩))) := KU.setCell (Nat.le_refl _) _
            have k3 := kc.trans k3'
            have E : hangT q v (w.heap.size + 1) wc.heap.size (.node b p u h x y) = .node wc.heap.size (p.com q) 0 false (.node (w.heap.size + 1) q v true .nil .nil) (.node b p u h x y) := by
              simp [hangT, He.out, Hcq.out, Hb.out]
            refine ⟨rfl, w.heap.size + 1, wc.heap.size, _, by omega, kc.size, by omega, Only.of_kp k3, ?_, by rw [E]; rfl, rfl, rfl, rfl⟩
            rw [E]
            exact ⟨O4.set_ 5 _, ⟨D1.keep k3', trivial, trivial⟩, ⟨N.keep k3, Mx.keep k3, My.keep k3⟩⟩
          · have Hb := Lib.hid hb
            have Hb2 := Lib.hid (show bitN p.a (p.com q).l = 0 by have := bit_lt p.a (p.com q).l; have := Hbits.out; omega)
            clear hb
            go_wp2_with fail
            refine wp_tail 10 (by kernel_rfl) (by kernel_rfl) (fun V hV => ?_)
            have KV : Kp X V := by rw [hV]; exact (Kp.refl _).drew
            have O3 := OX.keep KV
            have C3 := (C.keep KX).keep KV
            have P3 := (D0.keep KX).keep KV
            clear hV q0 q1 c0 c1 hX
            have q0 : V.cell? ⟨w.heap.size, 0, none⟩ = some (.int .u32 q.a) := P3.cell 0
            have c1 : V.cell? ⟨c, 1, none⟩ = some (.int .i64 (p.com q).l) := C3.cell 1
            have o0 : V.cell? ⟨wc.heap.size, 5, none⟩ = some (.pointer none) := O3.cell 5
            have z0 := O3.frozen 5
            simp only [List.take_succ_cons, List.take_zero, List.drop_succ_cons, List.drop_zero]
            repeat still_step
            still_call (by refine (bit_any q.a (p.com q).l _ Hq.out.1 hcl).mono ?_; rintro e w' ⟨rfl, rfl⟩; rw [Hb.out]; exact ⟨rfl, rfl⟩)
            repeat still_step
            refine wpStill_nil ?_
            go_wp2_with fail
            refine wp_tail 13 (by kernel_rfl) (by kernel_rfl) (fun U hU => ?_)
            have kv : Kp wc V := KX.trans KV
            have O4 : Blk U wc.heap.size 87 #[.int .u32 (p.com q).a, .int .i64 (p.com q).l, .int .i64 0, .bool false, .pointer none, .pointer (some ⟨w.heap.size + 1, 0, none⟩)] := by rw [hU]; exact O3.set_ 5 _
            have KU : Kp wc U := by rw [hU]; exact (kv.setCell (Nat.le_refl _) _).drew
            have N4 := DN.keep KU
            have C4 := C.keep KU
            have A4 := DA.keep KU
            have L4 := D1.keep KU
            clear hU q0 c1 o0 z0
            have n0 : U.cell? ⟨b, 0, none⟩ = some (.int .u32 p.a) := N4.cell 0
            have c1 : U.cell? ⟨c, 1, none⟩ = some (.int .i64 (p.com q).l) := C4.cell 1
            have o0 : U.cell? ⟨wc.heap.size, 4, none⟩ = some (.pointer none) := O4.cell 4
            have z0 := O4.frozen 4
            have zA := A4.frozen a1
            have cA : U.cell? ⟨a0, a1, none⟩ = some (.pointer (some ⟨b, 0, none⟩)) := (A4.cell a1).trans Hc.out
            simp only [List.take_succ_cons, List.take_zero, List.drop_succ_cons, List.drop_zero]
            repeat still_step
            still_call (by refine (bit_any p.a (p.com q).l _ Hp.out.1 hcl).mono ?_; rintro e w' ⟨rfl, rfl⟩; rw [Hb2.out]; exact ⟨rfl, rfl⟩)
            repeat still_step
            refine wpStill_nil ?_
            go_wp2_with fail
            go_end0
            have k3' : Kp wc (U.setCell ⟨wc.heap.size, 4, none⟩ (.pointer (some ⟨b, 0, none⟩))) := KU.setCell (Nat.le_refl _) _
            have k3 := kc.trans k3'
            have E : hangT q v (w.heap.size + 1) wc.heap.size (.node b p u h x y) = .node wc.heap.size (p.com q) 0 false (.node b p u h x y) (.node (w.heap.size + 1) q v true .nil .nil) := by
              simp [hangT, He.out, Hcq.out, Hb.out]
            refine ⟨rfl, w.heap.size + 1, wc.heap.size, _, by omega, kc.size, by omega, Only.of_kp k3, ?_, by rw [E]; rfl, rfl, rfl, rfl⟩
            rw [E]
            exact ⟨O4.set_ 4 _, ⟨N.keep k3, Mx.keep k3, My.keep k3⟩, ⟨D1.keep k3', trivial, trivial⟩⟩
end Go.Proofs.YtfaiponmjjbgoaaDoor
