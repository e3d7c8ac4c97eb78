/- Lemmas and contracts for the theorem of this claim: RbR, RbS, RbT, RbU. -/
import Derived.Test.YtgopnfacklmkaaaGreatDoorZxAw
import Derived.StillTailTactics
import Derived.BigQuiet
set_option linter.all false
set_option maxHeartbeats 16000000
namespace Go.Proofs.YtgopnfacklmkaaaGreatDoor
section
open Go.RowKit Go.Maps
abbrev stopBV (e : Int) : Value := .iface 128 (.int .i64 e)
abbrev stopB (e : Int) : Ending := .panicked [{ v := stopBV e, recovered := false }]
set_option maxRecDepth 100000 in
theorem vjv (w : World) : Calls Tryz.prog 55 #[.pointer none] w fun e w' => e = .returned (.bool true) ∧ w' = w := by
 go_enter Tryz.func55, Tryz.ntmps55
 go_wp2_with fail
 go_ret
 exact ⟨rfl, rfl⟩
set_option maxRecDepth 100000 in
theorem vct (t : Nat) (mp : Nat) (w : World) (hb : w.cell? ⟨t, 10, none⟩ = some (.map (some mp))) : Calls Tryz.prog 55 #[.pointer (some ⟨t, 0, none⟩)] w fun e w' => e = .returned (.bool false) ∧ w' = w := by
 have h1 : ∀ w, (binOp .eql 123 (.map (some mp)) (.map none)).run Tryz.prog w = .ok (.bool false) w := fun w => by kernel_rfl
 have h2 : ∀ w, (binOp .eql 43 (.pointer (some ⟨t, 0, none⟩)) (.pointer none)).run Tryz.prog w = .ok (.bool false) w := fun w => by kernel_rfl
 go_enter Tryz.func55, Tryz.ntmps55
 go_wp2_with fail
 go_ret
 exact ⟨rfl, rfl⟩
theorem vlk (w : World) : Calls Tryz.prog 56 #[.int .i64 0] w fun e w' => e = .returned (.tuple #[]) ∧ w' = w := by
 go_enter Tryz.func56, Tryz.ntmps56
 go_wp2_with fail
 go_end0
 exact ⟨rfl, rfl⟩
theorem vcN (n : Int) (hn : ¬ n = 0) (w : World) : Calls Tryz.prog 56 #[.int .i64 n] w fun e w' => e = stopB n ∧ w' = w := by
 have h : (n != 0) = true := by simp [hn]
 go_enter Tryz.func56, Tryz.ntmps56
 go_wp2_with fail
 exact ⟨rfl, rfl, rfl⟩
theorem TabM.cellm {w : World} {B t : Nat} {F : List Nat} {T : Tb} (h : TabM w B t F T) : ∃ mp, w.cell? ⟨t, 10, none⟩ = some (.map (some mp)) ∧ MapR w mp T.l := by
 obtain ⟨q, mp, m, A, QF, l, _, X⟩ := h
 exact ⟨mp, X.bk.cell 10, X.mr⟩
theorem TabM.celln {w : World} {B t : Nat} {F : List Nat} {T : Tb} (h : TabM w B t F T) : w.cell? ⟨t, 11, none⟩ = some (.int .i64 T.now) ∧ w.cell? ⟨t, 12, none⟩ = some (.int .i64 T.rf) ∧ ∀ i, w.frozen? ⟨t, i, none⟩ = false := by
 obtain ⟨q, mp, m, A, QF, l, _, X⟩ := h
 exact ⟨X.bk.cell 11, X.bk.cell 12, fun i => X.bk.frozen i⟩
theorem TabM.set_ {w w' : World} {B t : Nat} {F : List Nat} {T T' : Tb} (h : TabM w B t F T) (k : Only [t] w w') (hb : ∀ q A m mp, Blk w t 125 (tbC q T A m mp) → Blk w' t 125 (tbC q T' A m mp)) (hc : T'.c = T.c) (hl : T'.l = T.l) : TabM w' B t F T' := by
 obtain ⟨q, mp, m, A, QF, l, e, X⟩ := h
 exact ⟨q, mp, m, A, QF, l, e, hb _ _ _ _ X.bk, X.qs.only k (fun b eb z => by simp only [List.mem_cons, List.not_mem_nil, or_false] at z; subst z; exact X.tq eb), by rw [hl]; exact X.pm, by rw [hl]; exact X.mr.only k (by simpa using X.mt), by rw [hc]; exact vbK X.ow k (fun a e => by simpa using (X.an a e).2.1), X.tq, X.mq, X.mt, X.an, X.bt, X.bm, by rw [hl]; exact X.u, by rw [hl]; exact X.wf, by rw [hl]; exact X.n⟩
theorem TabM.now_ {w : World} {B t : Nat} {F : List Nat} {T : Tb} (h : TabM w B t F T) (now : Int) : TabM (w.setCell ⟨t, 11, none⟩ (.int .i64 now)) B t F ⟨T.c, T.l, now, T.rf⟩ :=
 h.set_ ((Only.refl [t] w).setCell (p := ⟨t, 11, none⟩) (.inl (by simp)) _) (fun q A m mp hb => by
  have H := hb.set_ 11 (.int .i64 now)
  simp only [tbC, List.setIfInBounds_toArray, List.set_cons_zero, List.set_cons_succ] at H
  exact H) rfl rfl
theorem TabM.rf_ {w : World} {B t : Nat} {F : List Nat} {T : Tb} (h : TabM w B t F T) (n : Int) : TabM (w.setCell ⟨t, 12, none⟩ (.int .i64 n)) B t F ⟨T.c, T.l, T.now, n⟩ :=
 h.set_ ((Only.refl [t] w).setCell (p := ⟨t, 12, none⟩) (.inl (by simp)) _) (fun q A m mp hb => by
  have H := hb.set_ 12 (.int .i64 n)
  simp only [tbC, List.setIfInBounds_toArray, List.set_cons_zero, List.set_cons_succ] at H
  exact H) rfl rfl
set_option maxRecDepth 100000 in
theorem vll (B t : Nat) (F : List Nat) (T : Tb) (now : Int) (f : FuncId) (hcf : ∀ args w, (callFunc f args).run Tryz.prog w = .ok (.enter f args) w) (x y z : Value) (w : World) (h : TabM w B t F T) (ht : timely T now = true) {R : Ending → World → Prop} (hR : ∀ e w', R e w' → e = .returned (.tuple #[]) ∨ ∃ ch, e = .panicked ch)
  (HC : Calls Tryz.prog f #[x, y, z] (w.setCell ⟨t, 11, none⟩ (.int .i64 now)) R) : Calls Tryz.prog 58 #[.pointer (some ⟨t, 0, none⟩), .int .i64 now, .func (.func f) #[] #[x, y, z]] w R := by
 obtain ⟨h1, h2, h3⟩ := h.celln
 have hz := h3 11
 rw [vdm] at ht
 have d1 : decide (now < T.now) = false := decide_eq_false (by omega)
 have d2 : decide (4611686018426387904 < now) = false := decide_eq_false (by omega)
 have HC' := Lib.hid HC
 have HR := Lib.hid hR
 clear HC hR h3
 go_enter Tryz.func58, Tryz.ntmps58
 go_wp2_with fail
 refine HC'.out.mono ?_
 rintro e w1 hE
 rcases HR.out _ _ hE with rfl | ⟨ch, rfl⟩
 ·go_wp2_with fail
  go_end0
  exact hE
 ·go_wp2_with fail
  exact ⟨rfl, hE⟩
set_option maxRecDepth 100000 in
theorem vlm (B t : Nat) (F : List Nat) (T : Tb) (now : Int) (v : Value) (w : World) (h : TabM w B t F T) (hT : 0 ≤ T.now) (ht : timely T now = false) : Calls Tryz.prog 58 #[.pointer (some ⟨t, 0, none⟩), .int .i64 now, v] w fun e w' => e = stopB 170 ∧ w' = w := by
 obtain ⟨h1, h2, h3⟩ := h.celln
 have hz := h3 11
 have ht' : ¬ (0 ≤ now ∧ now ≤ 4611686018426387904 ∧ T.now ≤ now) := fun e => by rw [vdm.2 e] at ht; cases ht
 clear h3
 by_cases d1 : now < T.now
 ·have e1 : decide (now < T.now) = true := decide_eq_true d1
  go_enter Tryz.func58, Tryz.ntmps58
  go_wp2_with (first | (go_at_call 56; refine (vcN 170 (by decide) _).mono ?_; rintro e w' ⟨rfl, rfl⟩))
  exact ⟨rfl, rfl, rfl⟩
 ·have e1 : decide (now < T.now) = false := decide_eq_false d1
  have e2 : decide (4611686018426387904 < now) = true := decide_eq_true (by omega)
  go_enter Tryz.func58, Tryz.ntmps58
  go_wp2_with (first | (go_at_call 56; refine (vcN 170 (by decide) _).mono ?_; rintro e w' ⟨rfl, rfl⟩))
  exact ⟨rfl, rfl, rfl⟩
def GetP (o : Option Rt) (w : World) (e : Ending) (w' : World) : Prop := e = .returned (.tuple #[roV (o.getD zeroR), .bool o.isSome]) ∧ Kp w w'
set_option maxRecDepth 100000 in
theorem vjw (B t : Nat) (F : List Nat) (T : Tb) (p : PI) (w : World) (h : TabM w B t F T) (hp : wfP p) : Calls Tryz.prog 162 #[.pointer (some ⟨t, 0, none⟩), pfV p] w (GetP (getR p T.l) w) := by
 have hu : UpR T.l := by obtain ⟨_, _, _, _, _, _, _, X⟩ := h; exact X.u
 have hw : ∀ r ∈ T.l, wfP r.p := by obtain ⟨_, _, _, _, _, _, _, X⟩ := h; exact X.wf
 obtain ⟨b, hb⟩ : ∃ b, w.heap.size = b := ⟨_, rfl⟩
 obtain ⟨W, hW, kW, B0, B1⟩ := Blk.al2 hb #[.int .u32 (p.a : Int), .int .i64 p.l] 39 zero9 52
 unfold zero9 at hW
 obtain ⟨mp, hm, hM⟩ := (h.keep kW).cellm
 obtain ⟨o, ho⟩ : ∃ o, getR p T.l = o := ⟨_, rfl⟩
 have hlk := fun k => vaV hM hu hw hp (W.drewN k) rfl
 have hlk1 := vaV hM hu hw hp W.drew rfl
 have hlk2 := fun ob => vaV (hM.keep ((Kp.refl W).alloc ob)) hu hw hp (W.alloc ob).drew rfl
 have hlk3 := fun ob => vaV (hM.keep ((Kp.refl W).alloc ob)) hu hw hp (W.alloc ob) rfl
 have hm2 : ∀ ob, (W.alloc ob).cell? ⟨t, 10, none⟩ = some (.map (some mp)) := fun ob => ((Kp.refl W).alloc ob).cell hm
 obtain ⟨o, ho⟩ : ∃ o, getR p T.l = o := ⟨_, rfl⟩
 rw [ho] at hlk1 ⊢
 simp only [ho] at hlk2 hlk3
 obtain ⟨r, hr⟩ : ∃ r, o.getD zeroR = r := ⟨_, rfl⟩
 rw [hr] at hlk1
 simp only [hr] at hlk2 hlk3
 obtain ⟨is, his⟩ : ∃ is, o.isSome = is := ⟨_, rfl⟩
 rw [his] at hlk1
 simp only [his] at hlk2 hlk3
 have HR := Lib.hid hr
 have HI := Lib.hid his
 clear ho hr his hu hw h hlk
 have hlt := B1.lt
 obtain ⟨c0, c1⟩ := Blk.p2 B0
 have c0' : ∀ ob, (W.alloc ob).cell? ⟨b, 0, none⟩ = some (.int .u32 (p.a : Int)) := fun ob => ((Kp.refl W).alloc ob).cell c0
 have c1' : ∀ ob, (W.alloc ob).cell? ⟨b, 1, none⟩ = some (.int .i64 p.l) := fun ob => ((Kp.refl W).alloc ob).cell c1
 go_enter Tryz.func162, Tryz.ntmps162
 go_upto_region 3 with (first | (go_at_call 55; refine (vct t mp _ hm).mono ?_; rintro e w' ⟨rfl, hw'⟩; rw [hw']; clear hw' w'))
 go_cut [6, 7] from 11 (fun s6 s7 wx => s6 = .pointer (some ⟨W.heap.size, 0, none⟩) ∧ s7 = .bool is ∧ wx = (W.alloc (.cells #[.int .u32 (r.p.a : Int), .int .i64 r.p.l, .int .i64 r.s, .int .i64 r.m, .int .i64 r.l, .int .i64 r.f, .int .u32 (r.x : Int), .int .i64 r.d, .bool r.c] 132)).drew)
 case first =>
  go_region_with (fail)
  all_goals
   go_wp2_with fail
   go_meet
   case rel => exact ⟨rfl, rfl, rfl⟩
 case rest =>
  obtain ⟨rfl, rfl, rfl⟩ := hcut
  clear hlk1 hlk2 hlk3 hm2 c0' c1'
  obtain ⟨d, hd⟩ : ∃ d, W.heap.size = d := ⟨_, rfl⟩
  obtain ⟨V, hV, kV, D1, D2⟩ : ∃ V, W.alloc (.cells (roC r) 132) = V ∧ Kp w V ∧ Blk V (b + 1) 52 zero9 ∧ Blk V d 132 (roC r) := ⟨_, rfl, kW.alloc _, B1.alloc _, by rw [← hd]; exact Blk.new _ _ _⟩
  unfold roC at hV
  rw [hV, hd]
  have hbd : ¬ d = b + 1 := by omega
  have hbd' : ¬ b + 1 = d := by omega
  have q0 := Blk.f (l := [.int .u32 0, .int .i64 0, .int .i64 0, .int .i64 0, .int .i64 0, .int .i64 0, .int .u32 0, .int .i64 0, .bool false]) D1 rfl
  have z0 := Blk.frozen D1
  have y0 := Blk.f D2 rfl
  obtain ⟨R, hR, BR, kR⟩ := Blk.put9 D1 r kV (by omega)
  simp only [roSet] at hR
  obtain ⟨u0, u1, u2, u3, u4, u5, u6, u7, u8⟩ := vac BR
  go_wp2_with fail
  exact ⟨rfl, .tuple #[roV r, .bool is], by simp [results, Tryz.results162, go_sem, u0, u1, u2, u3, u4, u5, u6, u7, u8], by rw [HR.out, HI.out], kR.drew⟩
theorem TabM.cap_ {w : World} {B t : Nat} {F : List Nat} {T : Tb} (h : TabM w B t F T) : w.cell? ⟨t, 8, none⟩ = some (.int .i64 T.c.cap) := by
 obtain ⟨q, mp, m, A, QF, l, _, X⟩ := h
 exact X.bk.cell 8
set_option maxRecDepth 100000 in
theorem veW (B t : Nat) (F : List Nat) (T : Tb) (pb pr pt : Nat) (there : Bool) (r : Rt) (w : World) (h : TabM w B t F T) (h0 : Blk w pb 4 #[.bool there]) (h1 : Blk w pr 52 (roC r)) (h2 : Blk w pt 43 #[.pointer (some ⟨t, 0, none⟩)]) (hr : okR r = true) (ha : r.p.a < 4294967296) (hn : T.l.length < 800000) (hf : 0 ≤ T.rf ∧ T.rf ≤ 2147483647) (e0 : there = true) :
  Calls Tryz.prog 59 #[.pointer (some ⟨pb, 0, none⟩), .pointer (some ⟨pr, 0, none⟩), .pointer (some ⟨pt, 0, none⟩)] w (fun e w' => e = .returned (.tuple #[]) ∧ TabT w w' B t F ⟨T.c, setR r T.l, T.now, T.rf⟩) := by
 obtain ⟨mp, hm, hM⟩ := h.cellm
 have hcap := h.cap_
 obtain ⟨g1, g2, g3⟩ := h.celln
 have hz := g3 12
 have hl := fun k => vft hM 3 (w.drewN k) rfl
 have c0 : w.cell? ⟨pb, 0, none⟩ = some (.bool there) := h0.cell 0
 have d0 : w.cell? ⟨pt, 0, none⟩ = some (.pointer (some ⟨t, 0, none⟩)) := h2.cell 0
 have p0 := Blk.f h1 rfl
 have HH := Lib.hid h
 have H1 := Lib.hid h1
 clear h g3 h0 h1 h2 hM
 subst e0
 go_enter Tryz.func59, Tryz.ntmps59
 go_wp2_with fail
 go_quiet (fail)
 obtain ⟨g, hg⟩ : ∃ g, w.heap.size = g := ⟨_, rfl⟩
 obtain ⟨W, hW, kW, B0⟩ : ∃ W, (w.drewN nq).alloc (.cells (roC r) 52) = W ∧ Kp w W ∧ Blk W g 52 (roC r) := ⟨_, rfl, ((Kp.refl _).drewN _).alloc _, by rw [← hg]; exact Blk.new (w.drewN nq) _ _⟩
 unfold roC at hW
 clear hl
 go_wp2_with fail
 refine (vdO B t g F T r _ (HH.out.keep kW) B0 hr ha hn).mono ?_
 rintro e w2 ⟨rfl, hT⟩
 have HT := Lib.hid (hT.trans (Only.of_kp kW) (fun _ e => .inl e))
 clear hT hW c0 d0 p0 hm hcap g1 g2 hz
 go_wp2_with fail
 go_end0
 exact ⟨rfl, HT.out⟩
set_option maxRecDepth 100000 in
theorem vgf (B t : Nat) (F : List Nat) (T : Tb) (pb pr pt : Nat) (there : Bool) (r : Rt) (w : World) (h : TabM w B t F T) (h0 : Blk w pb 4 #[.bool there]) (h1 : Blk w pr 52 (roC r)) (h2 : Blk w pt 43 #[.pointer (some ⟨t, 0, none⟩)]) (hr : okR r = true) (ha : r.p.a < 4294967296) (hn : T.l.length < 800000) (hf : 0 ≤ T.rf ∧ T.rf ≤ 2147483647) (e0 : there = false) (e1 : (r.s == 2) = false) :
  Calls Tryz.prog 59 #[.pointer (some ⟨pb, 0, none⟩), .pointer (some ⟨pr, 0, none⟩), .pointer (some ⟨pt, 0, none⟩)] w (fun e w' => e = .returned (.tuple #[]) ∧ TabT w w' B t F ⟨T.c, setR r T.l, T.now, T.rf⟩) := by
 obtain ⟨mp, hm, hM⟩ := h.cellm
 have hcap := h.cap_
 obtain ⟨g1, g2, g3⟩ := h.celln
 have hz := g3 12
 have hl := fun k => vft hM 3 (w.drewN k) rfl
 have c0 : w.cell? ⟨pb, 0, none⟩ = some (.bool there) := h0.cell 0
 have d0 : w.cell? ⟨pt, 0, none⟩ = some (.pointer (some ⟨t, 0, none⟩)) := h2.cell 0
 have p0 := Blk.f h1 rfl
 have HH := Lib.hid h
 have H1 := Lib.hid h1
 clear h g3 h0 h1 h2 hM
 subst e0
 go_enter Tryz.func59, Tryz.ntmps59
 go_wp2_with fail
 go_quiet (fail)
 obtain ⟨g, hg⟩ : ∃ g, w.heap.size = g := ⟨_, rfl⟩
 obtain ⟨W, hW, kW, B0⟩ : ∃ W, (w.drewN nq).alloc (.cells (roC r) 52) = W ∧ Kp w W ∧ Blk W g 52 (roC r) := ⟨_, rfl, ((Kp.refl _).drewN _).alloc _, by rw [← hg]; exact Blk.new (w.drewN nq) _ _⟩
 unfold roC at hW
 clear hl
 go_wp2_with fail
 refine (vdO B t g F T r _ (HH.out.keep kW) B0 hr ha hn).mono ?_
 rintro e w2 ⟨rfl, hT⟩
 have HT := Lib.hid (hT.trans (Only.of_kp kW) (fun _ e => .inl e))
 clear hT hW c0 d0 p0 hm hcap g1 g2 hz
 go_wp2_with fail
 go_end0
 exact ⟨rfl, HT.out⟩
set_option maxRecDepth 100000 in
theorem vgg (B t : Nat) (F : List Nat) (T : Tb) (pb pr pt : Nat) (there : Bool) (r : Rt) (w : World) (h : TabM w B t F T) (h0 : Blk w pb 4 #[.bool there]) (h1 : Blk w pr 52 (roC r)) (h2 : Blk w pt 43 #[.pointer (some ⟨t, 0, none⟩)]) (hr : okR r = true) (ha : r.p.a < 4294967296) (hn : T.l.length < 800000) (hf : 0 ≤ T.rf ∧ T.rf ≤ 2147483647) (e0 : there = false) (e1 : (r.s == 2) = true) (e2 : decide (T.c.cap ≤ (T.l.length : Int)) = false) :
  Calls Tryz.prog 59 #[.pointer (some ⟨pb, 0, none⟩), .pointer (some ⟨pr, 0, none⟩), .pointer (some ⟨pt, 0, none⟩)] w (fun e w' => e = .returned (.tuple #[]) ∧ TabT w w' B t F ⟨T.c, setR r T.l, T.now, T.rf⟩) := by
 obtain ⟨mp, hm, hM⟩ := h.cellm
 have hcap := h.cap_
 obtain ⟨g1, g2, g3⟩ := h.celln
 have hz := g3 12
 have hl := fun k => vft hM 3 (w.drewN k) rfl
 have c0 : w.cell? ⟨pb, 0, none⟩ = some (.bool there) := h0.cell 0
 have d0 : w.cell? ⟨pt, 0, none⟩ = some (.pointer (some ⟨t, 0, none⟩)) := h2.cell 0
 have p0 := Blk.f h1 rfl
 have HH := Lib.hid h
 have H1 := Lib.hid h1
 clear h g3 h0 h1 h2 hM
 subst e0
 go_enter Tryz.func59, Tryz.ntmps59
 go_wp2_with fail
 go_quiet (fail)
 obtain ⟨g, hg⟩ : ∃ g, w.heap.size = g := ⟨_, rfl⟩
 obtain ⟨W, hW, kW, B0⟩ : ∃ W, (w.drewN nq).alloc (.cells (roC r) 52) = W ∧ Kp w W ∧ Blk W g 52 (roC r) := ⟨_, rfl, ((Kp.refl _).drewN _).alloc _, by rw [← hg]; exact Blk.new (w.drewN nq) _ _⟩
 unfold roC at hW
 clear hl
 go_wp2_with fail
 refine (vdO B t g F T r _ (HH.out.keep kW) B0 hr ha hn).mono ?_
 rintro e w2 ⟨rfl, hT⟩
 have HT := Lib.hid (hT.trans (Only.of_kp kW) (fun _ e => .inl e))
 clear hT hW c0 d0 p0 hm hcap g1 g2 hz
 go_wp2_with fail
 go_end0
 exact ⟨rfl, HT.out⟩
set_option maxRecDepth 100000 in
theorem vgh (B t : Nat) (F : List Nat) (T : Tb) (pb pr pt : Nat) (there : Bool) (r : Rt) (w : World) (h : TabM w B t F T) (h0 : Blk w pb 4 #[.bool there]) (h1 : Blk w pr 52 (roC r)) (h2 : Blk w pt 43 #[.pointer (some ⟨t, 0, none⟩)]) (hr : okR r = true) (ha : r.p.a < 4294967296) (hn : T.l.length < 800000) (hf : 0 ≤ T.rf ∧ T.rf ≤ 2147483647) (e0 : there = false) (e1 : (r.s == 2) = true) (e2 : decide (T.c.cap ≤ (T.l.length : Int)) = true) :
  Calls Tryz.prog 59 #[.pointer (some ⟨pb, 0, none⟩), .pointer (some ⟨pr, 0, none⟩), .pointer (some ⟨pt, 0, none⟩)] w (fun e w' => e = stopB 200 ∧ TabM w' B t F ⟨T.c, T.l, T.now, min (T.rf + 1) 2147483647⟩ ∧ Only [t] w w') := by
 obtain ⟨mp, hm, hM⟩ := h.cellm
 have hcap := h.cap_
 obtain ⟨g1, g2, g3⟩ := h.celln
 have hz := g3 12
 have hl := fun k => vft hM 3 (w.drewN k) rfl
 have c0 : w.cell? ⟨pb, 0, none⟩ = some (.bool there) := h0.cell 0
 have d0 : w.cell? ⟨pt, 0, none⟩ = some (.pointer (some ⟨t, 0, none⟩)) := h2.cell 0
 have p0 := Blk.f h1 rfl
 have HH := Lib.hid h
 have H1 := Lib.hid h1
 clear h g3 h0 h1 h2 hM
 subst e0
 go_enter Tryz.func59, Tryz.ntmps59
 go_wp2_with fail
 go_quiet (fail)
 clear hl
 rcases Int.lt_or_le 2147483647 (T.rf + 1) with hrf | hrf
 ·have hmin : min (T.rf + 1) 2147483647 = 2147483647 := by omega
  go_wp2_with fail
  go_region
  all_goals go_wp2_with (first | (go_at_call 56; refine (vcN 200 (by decide) _).mono ?_; rintro e w' ⟨rfl, hw'⟩; rw [hw']; clear hw' w'))
  all_goals exact ⟨rfl, rfl, by rw [hmin]; exact (HH.out.keep ((Kp.refl w).drewN _)).rf_ _, ((Only.refl [t] w).drewN _).setCell (p := ⟨t, 12, none⟩) (.inl (by simp)) _⟩
 ·have hmin : min (T.rf + 1) 2147483647 = T.rf + 1 := by omega
  go_wp2_with fail
  go_region
  all_goals go_wp2_with (first | (go_at_call 56; refine (vcN 200 (by decide) _).mono ?_; rintro e w' ⟨rfl, hw'⟩; rw [hw']; clear hw' w'))
  all_goals exact ⟨rfl, rfl, by rw [hmin]; exact (HH.out.keep ((Kp.refl w).drewN _)).rf_ _, ((Only.refl [t] w).drewN _).setCell (p := ⟨t, 12, none⟩) (.inl (by simp)) _⟩
theorem vln (e : Int) (w : World) : (Instr.typeAssert (stopBV e) 20 128 true).run Tryz.prog w = .ok (.tuple #[.int .i64 e, .bool true]) w := by kernel_rfl
theorem vlo (w : World) : (Instr.typeAssert .nilIface 20 128 true).run Tryz.prog w = .ok (.tuple #[.int .i64 0, .bool false]) w := by kernel_rfl
def upB (e : Int) : FrameMode := .panicking [{ v := stopBV e, recovered := false }]
def caughtB (e : Int) : FrameMode := .panicking [{ v := stopBV e, recovered := true }]
theorem vjx (e : Int) : recM (upB e) = (stopBV e, caughtB e) := rfl
set_option maxRecDepth 100000 in
theorem vbs (p0 p1 : Nat) (y v0 v1 v2 v3 v4 v5 v6 v7 v8 : Value) (e : Int) (w : World) (h0 : Blk w p0 52 #[v0, v1, v2, v3, v4, v5, v6, v7, v8]) (h1 : Blk w p1 44 #[y]) (n01 : ¬ p0 = p1) :
  CallsD Tryz.prog 54 #[.pointer (some ⟨p0, 0, none⟩), .pointer (some ⟨p1, 0, none⟩)] (upB e) w fun en u' w' =>
   en = .returned (.tuple #[]) ∧ u' = caughtB e ∧ Blk w' p0 52 zero9 ∧ Blk w' p1 44 #[.int .i64 e] ∧ Only [p0, p1] w w' := by
 have c0 := Blk.f (l := [v0, v1, v2, v3, v4, v5, v6, v7, v8]) h0 rfl
 have z0 := Blk.frozen h0
 have d0 : w.cell? ⟨p1, 0, none⟩ = some y := h1.cell 0
 have zd := Blk.frozen h1
 have n10 : ¬ p1 = p0 := fun h => n01 h.symm
 have hty := vln
 obtain ⟨R, hR, BR, BE, hO⟩ := Blk.putO h0 zeroR h1 n01 (v := .int .i64 e)
 simp only [roSet, noR, zeroR, Int.natCast_zero] at hR
 rw [vfp] at BR
 refine vai _ _ (vjx e) Tryz.func54 rfl rfl rfl ?_
 simp only [Tryz.ntmps54, Act.put, List.size_toArray, List.length_cons, List.length_nil, Nat.reduceAdd, Nat.reduceSub, Array.replicate_succ, Array.replicate_zero, List.push_toArray, List.append_toArray, List.nil_append, List.cons_append]
 go_wp2_with fail
 go_end0
 exact ⟨rfl, trivial, BR, BE, hO⟩
set_option maxRecDepth 100000 in
theorem vgi (p0 p1 : Value) (w : World) :
  CallsD Tryz.prog 54 #[p0, p1] .returning w fun en u' w' => en = .returned (.tuple #[]) ∧ u' = .returning ∧ w' = w := by
 have hty := vlo
 refine vai _ _ vbW Tryz.func54 rfl rfl rfl ?_
 simp only [Tryz.ntmps54, Act.put, List.size_toArray, List.length_cons, List.length_nil, Nat.reduceAdd, Nat.reduceSub, Array.replicate_succ, Array.replicate_zero, List.push_toArray, List.append_toArray, List.nil_append, List.cons_append]
 go_wp2_with fail
 go_end0
 exact ⟨rfl, trivial, rfl⟩
theorem vlp (c : Cf) (p : PI) (h : Hd) (now : Int) : (hearR c (noR p) h now).s = 0 ∨ (hearR c (noR p) h now).s = 2 := by
 unfold hearR
 rw [if_neg (show ¬ (noR p).s = 1 from (by decide : ¬ (0 : Int) = 1)), if_neg (show ¬ (noR p).s = 2 from (by decide : ¬ (0 : Int) = 2)), if_neg (show ¬ (noR p).s = 3 from (by decide : ¬ (0 : Int) = 3))]
 split
 ·exact .inr rfl
 ·exact .inl rfl
def Hear2P (B t : Nat) (F : List Nat) (T : Tb) (full : Bool) (r : Rt) (w : World) (e : Ending) (w' : World) : Prop := (full = true → e = stopB 200 ∧ TabM w' B t F ⟨T.c, T.l, T.now, min (T.rf + 1) 2147483647⟩ ∧ Only [t] w w') ∧ (full = false → e = .returned (.tuple #[]) ∧ TabT w w' B t F ⟨T.c, setR r T.l, T.now, T.rf⟩)
theorem vhE (B t : Nat) (F : List Nat) (T : Tb) (pb pr pt : Nat) (p : PI) (h : Hd) (now : Int) (r : Rt) (w : World) (hM : TabM w B t F T) (h0 : Blk w pb 4 #[.bool (getR p T.l).isSome]) (h1 : Blk w pr 52 (roC r)) (h2 : Blk w pt 43 #[.pointer (some ⟨t, 0, none⟩)]) (hr : okR r = true) (ha : r.p.a < 4294967296) (hn : T.l.length < 800000) (hf : 0 ≤ T.rf ∧ T.rf ≤ 2147483647) (he : r = hearR T.c (wasR p T.l) h now) :
  Calls Tryz.prog 59 #[.pointer (some ⟨pb, 0, none⟩), .pointer (some ⟨pr, 0, none⟩), .pointer (some ⟨pt, 0, none⟩)] w (Hear2P B t F T (fullB T p r) r w) := by
 cases hg : getR p T.l with
 | some x =>
  rw [hg] at h0
  have hb : fullB T p r = false := by unfold fullB; rw [hg]; rfl
  refine (veW B t F T pb pr pt true r w hM h0 h1 h2 hr ha hn hf rfl).mono ?_
  rintro e w' hE
  exact ⟨fun z => (by rw [hb] at z; cases z), fun _ => hE⟩
 | none =>
  rw [hg] at h0
  have hw : wasR p T.l = noR p := by unfold wasR; rw [hg]; rfl
  have hs : r.s = 0 ∨ r.s = 2 := by rw [he, hw]; exact vlp _ _ _ _
  rcases hs with hs | hs
  ·have hb : fullB T p r = false := by unfold fullB; rw [decide_eq_false (by omega)]; simp
   refine (vgf B t F T pb pr pt false r w hM h0 h1 h2 hr ha hn hf rfl (beqF (by omega))).mono ?_
   rintro e w' hE
   exact ⟨fun z => (by rw [hb] at z; cases z), fun _ => hE⟩
  ·cases hc : decide (T.c.cap ≤ (T.l.length : Int)) with
   | true =>
    have hb : fullB T p r = true := by unfold fullB; rw [hg, decide_eq_true (by omega), hc]; rfl
    refine (vgh B t F T pb pr pt false r w hM h0 h1 h2 hr ha hn hf rfl (beqT hs) hc).mono ?_
    rintro e w' hE
    exact ⟨fun _ => hE, fun z => (by rw [hb] at z; cases z)⟩
   | false =>
    have hb : fullB T p r = false := by unfold fullB; rw [hc]; simp
    refine (vgg B t F T pb pr pt false r w hM h0 h1 h2 hr ha hn hf rfl (beqT hs) hc).mono ?_
    rintro e w' hE
    exact ⟨fun z => (by rw [hb] at z; cases z), fun _ => hE⟩
end

end Go.Proofs.YtgopnfacklmkaaaGreatDoor
