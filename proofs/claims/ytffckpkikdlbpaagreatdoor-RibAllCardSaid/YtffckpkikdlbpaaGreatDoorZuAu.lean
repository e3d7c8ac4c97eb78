/- Lemmas and contracts for the theorem of this claim: RbR, RbS, RbT, RbU. -/
import Derived.Test.YtffckpkikdlbpaaGreatDoorZuAt
import Derived.StillTailTactics
import Derived.BigQuiet
set_option linter.all false
set_option maxHeartbeats 16000000
namespace Go.Proofs.YtffckpkikdlbpaaGreatDoor
section
open Go.RowKit Go.Maps
abbrev stopBV (e : Int) : Value := .iface 111 (.int .i64 e)
abbrev stopB (e : Int) : Ending := .panicked [{ v := stopBV e, recovered := false }]
set_option maxRecDepth 100000 in
theorem vau (t : Nat) (mp : Nat) (w : World) (hb : w.cell? ⟨t, 10, none⟩ = some (.map (some mp))) : Calls Tryz.prog 56 #[.pointer (some ⟨t, 0, none⟩)] w fun e w' => e = .returned (.bool false) ∧ w' = w := by
 have h1 : ∀ w, (binOp .eql 105 (.map (some mp)) (.map none)).run Tryz.prog w = .ok (.bool false) w := fun w => by kernel_rfl
 have h2 : ∀ w, (binOp .eql 36 (.pointer (some ⟨t, 0, none⟩)) (.pointer none)).run Tryz.prog w = .ok (.bool false) w := fun w => by kernel_rfl
 go_enter Tryz.func56, Tryz.ntmps56
 go_wp2_with fail
 go_ret
 exact ⟨rfl, rfl⟩
theorem vft (w : World) : Calls Tryz.prog 60 #[.int .i64 0] w fun e w' => e = .returned (.tuple #[]) ∧ w' = w := by
 go_enter Tryz.func60, Tryz.ntmps60
 go_wp2_with fail
 go_end0
 exact ⟨rfl, rfl⟩
theorem vbV (n : Int) (hn : ¬ n = 0) (w : World) : Calls Tryz.prog 60 #[.int .i64 n] w fun e w' => e = stopB n ∧ w' = w := by
 have h : (n != 0) = true := by simp [hn]
 go_enter Tryz.func60, Tryz.ntmps60
 go_wp2_with fail
 exact ⟨rfl, rfl, rfl⟩
theorem TabM.cellm {w : World} {B t : Nat} {F : List Nat} {T : Tb} (h : TabM w B t F T) : ∃ mp, w.cell? ⟨t, 10, none⟩ = some (.map (some mp)) ∧ MapR w mp T.l := by
 obtain ⟨q, mp, m, A, QF, l, _, X⟩ := h
 exact ⟨mp, X.bk.cell 10, X.mr⟩
theorem TabM.celln {w : World} {B t : Nat} {F : List Nat} {T : Tb} (h : TabM w B t F T) : w.cell? ⟨t, 11, none⟩ = some (.int .i64 T.now) ∧ w.cell? ⟨t, 12, none⟩ = some (.int .i64 T.rf) ∧ ∀ i, w.frozen? ⟨t, i, none⟩ = false := by
 obtain ⟨q, mp, m, A, QF, l, _, X⟩ := h
 exact ⟨X.bk.cell 11, X.bk.cell 12, fun i => X.bk.frozen i⟩
theorem TabM.set_ {w w' : World} {B t : Nat} {F : List Nat} {T T' : Tb} (h : TabM w B t F T) (k : Only [t] w w') (hb : ∀ q A m mp, Blk w t 107 (tbC q T A m mp) → Blk w' t 107 (tbC q T' A m mp)) (hc : T'.c = T.c) (hl : T'.l = T.l) : TabM w' B t F T' := by
 obtain ⟨q, mp, m, A, QF, l, e, X⟩ := h
 exact ⟨q, mp, m, A, QF, l, e, hb _ _ _ _ X.bk, X.qs.only k (fun b eb z => by simp only [List.mem_cons, List.not_mem_nil, or_false] at z; subst z; exact X.tq eb), by rw [hl]; exact X.pm, by rw [hl]; exact X.mr.only k (by simpa using X.mt), by rw [hc]; exact vaR X.ow k (fun a e => by simpa using (X.an a e).2.1), X.tq, X.mq, X.mt, X.an, X.bt, X.bm, by rw [hl]; exact X.u, by rw [hl]; exact X.wf, by rw [hl]; exact X.n⟩
theorem TabM.now_ {w : World} {B t : Nat} {F : List Nat} {T : Tb} (h : TabM w B t F T) (now : Int) : TabM (w.setCell ⟨t, 11, none⟩ (.int .i64 now)) B t F ⟨T.c, T.l, now, T.rf⟩ :=
 h.set_ ((Only.refl [t] w).setCell (p := ⟨t, 11, none⟩) (.inl (by simp)) _) (fun q A m mp hb => by
  have H := hb.set_ 11 (.int .i64 now)
  simp only [tbC, List.setIfInBounds_toArray, List.set_cons_zero, List.set_cons_succ] at H
  exact H) rfl rfl
theorem TabM.rf_ {w : World} {B t : Nat} {F : List Nat} {T : Tb} (h : TabM w B t F T) (n : Int) : TabM (w.setCell ⟨t, 12, none⟩ (.int .i64 n)) B t F ⟨T.c, T.l, T.now, n⟩ :=
 h.set_ ((Only.refl [t] w).setCell (p := ⟨t, 12, none⟩) (.inl (by simp)) _) (fun q A m mp hb => by
  have H := hb.set_ 12 (.int .i64 n)
  simp only [tbC, List.setIfInBounds_toArray, List.set_cons_zero, List.set_cons_succ] at H
  exact H) rfl rfl
set_option maxRecDepth 100000 in
theorem vdl (B t : Nat) (F : List Nat) (T : Tb) (w : World) (h : TabM w B t F T) : Calls Tryz.prog 20 #[.pointer (some ⟨t, 0, none⟩)] w fun e w' => e = .returned (.int .i64 T.rf) ∧ w' = w := by
 obtain ⟨mp, hm, hM⟩ := h.cellm
 obtain ⟨h1, h2, _⟩ := h.celln
 go_enter Tryz.func20, Tryz.ntmps20
 go_wp2_with (first | (go_at_call 56; refine (vau t mp _ hm).mono ?_; rintro e w' ⟨rfl, rfl⟩))
 go_ret
 exact ⟨rfl, rfl⟩
set_option maxRecDepth 100000 in
theorem vmD (B t : Nat) (F : List Nat) (T : Tb) (w : World) (h : TabM w B t F T) : Calls Tryz.prog 22 #[.pointer (some ⟨t, 0, none⟩)] w fun e w' => e = .returned (.int .i64 T.now) ∧ w' = w := by
 obtain ⟨mp, hm, hM⟩ := h.cellm
 obtain ⟨h1, h2, _⟩ := h.celln
 go_enter Tryz.func22, Tryz.ntmps22
 go_wp2_with (first | (go_at_call 56; refine (vau t mp _ hm).mono ?_; rintro e w' ⟨rfl, rfl⟩))
 go_ret
 exact ⟨rfl, rfl⟩
set_option maxRecDepth 100000 in
theorem veg (B t : Nat) (F : List Nat) (T : Tb) (w : World) (h : TabM w B t F T) : Calls Tryz.prog 24 #[.pointer (some ⟨t, 0, none⟩)] w fun e w' => e = .returned (.int .i64 (T.l.length : Int)) ∧ w' = w := by
 obtain ⟨mp, hm, hM⟩ := h.cellm
 have hl := veM hM 3 w rfl
 go_enter Tryz.func24, Tryz.ntmps24
 go_wp2_with (first | (go_at_call 56; refine (vau t mp _ hm).mono ?_; rintro e w' ⟨rfl, rfl⟩))
 go_ret
 exact ⟨rfl, rfl⟩
def tmC (y : Tw) : Array Value := #[.int .i64 y.k, .int .u32 (y.p.a : Int), .int .i64 y.p.l]
set_option maxRecDepth 100000 in
theorem vkF (B q : Nat) (F : List Nat) (w : World) (S : QuS w B q F []) : Calls Tryz.prog 73 #[.agg #[.pointer (some ⟨q, 0, none⟩)]] w fun e w' => e = .returned (.tuple #[.int .i64 0, .bool false]) ∧ Kp w w' := by
 obtain ⟨b, hb⟩ : ∃ b, w.heap.size = b := ⟨_, rfl⟩
 obtain ⟨W, hW, kW, B0⟩ := Blk.al1 hb #[.pointer (some ⟨q, 0, none⟩)] 103
 have c0 : W.cell? ⟨b, 0, none⟩ = some (.pointer (some ⟨q, 0, none⟩)) := B0.cell 0
 go_enter Tryz.func73, Tryz.ntmps73
 go_wp2_with fail
 refine (vkD B q F _ (S.keep kW)).mono ?_
 rintro e w1 ⟨rfl, K1⟩
 have k1 := (kW.trans K1).alloc (.cells #[.int .i64 0, .int .u32 0, .int .i64 0] 158)
 clear c0 hW
 go_wp2_with fail
 exact ⟨rfl, .tuple #[.int .i64 0, .bool false], by simp [results, Tryz.results73, go_sem], rfl, k1⟩
set_option maxRecDepth 100000 in
theorem vit (B q : Nat) (F : List Nat) (l : List Tw) (w : World) (S : QuS w B q F l) (hl : l ≠ []) : Calls Tryz.prog 73 #[.agg #[.pointer (some ⟨q, 0, none⟩)]] w fun e w' => ∃ y ∈ l, (∀ z ∈ l, ltT z y = false) ∧ e = .returned (.tuple #[.int .i64 y.d, .bool true]) ∧ Kp w w' := by
 obtain ⟨b, hb⟩ : ∃ b, w.heap.size = b := ⟨_, rfl⟩
 obtain ⟨W, hW, kW, B0⟩ := Blk.al1 hb #[.pointer (some ⟨q, 0, none⟩)] 103
 have c0 : W.cell? ⟨b, 0, none⟩ = some (.pointer (some ⟨q, 0, none⟩)) := B0.cell 0
 have HL := Lib.hid hl
 clear hl
 go_enter Tryz.func73, Tryz.ntmps73
 go_wp2_with fail
 refine (vmB B q F l _ (S.keep kW) HL.out).mono ?_
 rintro e w1 ⟨y, hy, hle, rfl, K1⟩
 have H := Lib.hid hle
 have k1 := (kW.trans K1).alloc (.cells (tmC y) 158)
 clear c0 hW hle
 go_wp2_with fail
 exact ⟨rfl, .tuple #[.int .i64 y.d, .bool true], by simp [results, Tryz.results73, go_sem], y, hy, H.out, rfl, k1⟩
def nextV (L : List Rt) : Value := match firstR L with | some r => .tuple #[.int .i64 r.d, .bool true] | none => .tuple #[.int .i64 0, .bool false]
set_option maxRecDepth 100000 in
theorem veN (B t : Nat) (F : List Nat) (T : Tb) (w : World) (h : TabM w B t F T) : Calls Tryz.prog 28 #[.pointer (some ⟨t, 0, none⟩)] w fun e w' => e = .returned (nextV T.l) ∧ Kp w w' := by
 obtain ⟨q, mp, m, A, QF, l, _, X⟩ := h
 obtain ⟨c0, -, -, -, -, -, -, -, -, -, hm⟩ := Blk.v11 X.bk (.pointer (some ⟨q, 0, none⟩)) _ _ _ _ _ _ _ _ _ (.map (some mp)) rfl
 by_cases hl : l = []
 ·subst hl
  have hn : armL T.l = [] := X.pm.symm.eq_nil
  have HN := Lib.hid (show nextV T.l = .tuple #[.int .i64 0, .bool false] by unfold nextV; rw [(vfo X.u).2 hn])
  clear hn
  go_enter Tryz.func28, Tryz.ntmps28
  go_wp2_with (first | (go_at_call 56; refine (vau t mp _ hm).mono ?_; rintro e w' ⟨rfl, rfl⟩))
  refine (vkF B q QF _ X.qs).mono ?_
  rintro e w1 ⟨rfl, K1⟩
  go_wp2_with fail
  exact ⟨rfl, .tuple #[.int .i64 0, .bool false], by simp [results, Tryz.results28, go_sem], by rw [HN.out], K1⟩
 ·have HL := Lib.hid hl
  clear hl
  go_enter Tryz.func28, Tryz.ntmps28
  go_wp2_with (first | (go_at_call 56; refine (vau t mp _ hm).mono ?_; rintro e w' ⟨rfl, rfl⟩))
  refine (vit B q QF l _ X.qs HL.out).mono ?_
  rintro e w1 ⟨y, hy, hle, rfl, K1⟩
  obtain ⟨r, hr, _, _, e2⟩ := vcK X.u (X.pm.mem_iff.1 hy) (fun z hz => hle z (X.pm.mem_iff.2 hz))
  have HN := Lib.hid (show nextV T.l = .tuple #[.int .i64 y.d, .bool true] by unfold nextV; rw [hr, ← e2]; rfl)
  clear hle hr e2
  go_wp2_with fail
  exact ⟨rfl, .tuple #[.int .i64 y.d, .bool true], by simp [results, Tryz.results28, go_sem], by rw [HN.out], K1⟩
set_option maxRecDepth 100000 in
theorem viu (B t : Nat) (F : List Nat) (T : Tb) (now : Int) (f : FuncId) (hcf : ∀ args w, (callFunc f args).run Tryz.prog w = .ok (.enter f args) w) (x y z : Value) (w : World) (h : TabM w B t F T) (ht : timely T now = true) {R : Ending → World → Prop} (hR : ∀ e w', R e w' → e = .returned (.tuple #[]) ∨ ∃ ch, e = .panicked ch)
  (HC : Calls Tryz.prog f #[x, y, z] (w.setCell ⟨t, 11, none⟩ (.int .i64 now)) R) : Calls Tryz.prog 62 #[.pointer (some ⟨t, 0, none⟩), .int .i64 now, .func (.func f) #[] #[x, y, z]] w R := by
 obtain ⟨h1, h2, h3⟩ := h.celln
 have hz := h3 11
 rw [vak] at ht
 have d1 : decide (now < T.now) = false := decide_eq_false (by omega)
 have d2 : decide (4611686018426387904 < now) = false := decide_eq_false (by omega)
 have HC' := Lib.hid HC
 have HR := Lib.hid hR
 clear HC hR h3
 go_enter Tryz.func62, Tryz.ntmps62
 go_wp2_with fail
 refine HC'.out.mono ?_
 rintro e w1 hE
 rcases HR.out _ _ hE with rfl | ⟨ch, rfl⟩
 ·go_wp2_with fail
  go_end0
  exact hE
 ·go_wp2_with fail
  exact ⟨rfl, hE⟩
set_option maxRecDepth 100000 in
theorem vfu (B t : Nat) (F : List Nat) (T : Tb) (now : Int) (v : Value) (w : World) (h : TabM w B t F T) (hT : 0 ≤ T.now) (ht : timely T now = false) : Calls Tryz.prog 62 #[.pointer (some ⟨t, 0, none⟩), .int .i64 now, v] w fun e w' => e = stopB 170 ∧ w' = w := by
 obtain ⟨h1, h2, h3⟩ := h.celln
 have hz := h3 11
 have ht' : ¬ (0 ≤ now ∧ now ≤ 4611686018426387904 ∧ T.now ≤ now) := fun e => by rw [vak.2 e] at ht; cases ht
 clear h3
 by_cases d1 : now < T.now
 ·have e1 : decide (now < T.now) = true := decide_eq_true d1
  go_enter Tryz.func62, Tryz.ntmps62
  go_wp2_with (first | (go_at_call 60; refine (vbV 170 (by decide) _).mono ?_; rintro e w' ⟨rfl, rfl⟩))
  exact ⟨rfl, rfl, rfl⟩
 ·have e1 : decide (now < T.now) = false := decide_eq_false d1
  have e2 : decide (4611686018426387904 < now) = true := decide_eq_true (by omega)
  go_enter Tryz.func62, Tryz.ntmps62
  go_wp2_with (first | (go_at_call 60; refine (vbV 170 (by decide) _).mono ?_; rintro e w' ⟨rfl, rfl⟩))
  exact ⟨rfl, rfl, rfl⟩
end

section
open Go.RowKit Go.Maps
def GetP (o : Option Rt) (w : World) (e : Ending) (w' : World) : Prop := e = .returned (.tuple #[roV (o.getD zeroR), .bool o.isSome]) ∧ Kp w w'
set_option maxRecDepth 100000 in
theorem vgg (B t : Nat) (F : List Nat) (T : Tb) (p : PI) (w : World) (h : TabM w B t F T) (hp : wfP p) : Calls Tryz.prog 32 #[.pointer (some ⟨t, 0, none⟩), pfV p] w (GetP (getR p T.l) w) := by
 have hu : UpR T.l := by obtain ⟨_, _, _, _, _, _, _, X⟩ := h; exact X.u
 have hw : ∀ r ∈ T.l, wfP r.p := by obtain ⟨_, _, _, _, _, _, _, X⟩ := h; exact X.wf
 obtain ⟨b, hb⟩ : ∃ b, w.heap.size = b := ⟨_, rfl⟩
 obtain ⟨W, hW, kW, B0, B1⟩ := Blk.al2 hb #[.int .u32 (p.a : Int), .int .i64 p.l] 29 zero9 48
 unfold zero9 at hW
 obtain ⟨mp, hm, hM⟩ := (h.keep kW).cellm
 obtain ⟨o, ho⟩ : ∃ o, getR p T.l = o := ⟨_, rfl⟩
 have hlk := fun k => vbi hM hu hw hp (W.drewN k) rfl
 have hlk1 := vbi hM hu hw hp W.drew rfl
 have hlk2 := fun ob => vbi (hM.keep ((Kp.refl W).alloc ob)) hu hw hp (W.alloc ob).drew rfl
 have hlk3 := fun ob => vbi (hM.keep ((Kp.refl W).alloc ob)) hu hw hp (W.alloc ob) rfl
 have hm2 : ∀ ob, (W.alloc ob).cell? ⟨t, 10, none⟩ = some (.map (some mp)) := fun ob => ((Kp.refl W).alloc ob).cell hm
 obtain ⟨o, ho⟩ : ∃ o, getR p T.l = o := ⟨_, rfl⟩
 rw [ho] at hlk1 ⊢
 simp only [ho] at hlk2 hlk3
 obtain ⟨r, hr⟩ : ∃ r, o.getD zeroR = r := ⟨_, rfl⟩
 rw [hr] at hlk1
 simp only [hr] at hlk2 hlk3
 obtain ⟨is, his⟩ : ∃ is, o.isSome = is := ⟨_, rfl⟩
 rw [his] at hlk1
 simp only [his] at hlk2 hlk3
 have HR := Lib.hid hr
 have HI := Lib.hid his
 clear ho hr his hu hw h hlk
 have hlt := B1.lt
 obtain ⟨c0, c1⟩ := Blk.p2 B0
 have c0' : ∀ ob, (W.alloc ob).cell? ⟨b, 0, none⟩ = some (.int .u32 (p.a : Int)) := fun ob => ((Kp.refl W).alloc ob).cell c0
 have c1' : ∀ ob, (W.alloc ob).cell? ⟨b, 1, none⟩ = some (.int .i64 p.l) := fun ob => ((Kp.refl W).alloc ob).cell c1
 go_enter Tryz.func32, Tryz.ntmps32
 go_upto_region 3 with (first | (go_at_call 56; refine (vau t mp _ hm).mono ?_; rintro e w' ⟨rfl, hw'⟩; rw [hw']; clear hw' w'))
 go_cut [6, 7] from 11 (fun s6 s7 wx => s6 = .pointer (some ⟨W.heap.size, 0, none⟩) ∧ s7 = .bool is ∧ wx = (W.alloc (.cells #[.int .u32 (r.p.a : Int), .int .i64 r.p.l, .int .i64 r.s, .int .i64 r.m, .int .i64 r.l, .int .i64 r.f, .int .u32 (r.x : Int), .int .i64 r.d, .bool r.c] 87)).drew)
 case first =>
  go_region_with (fail)
  all_goals
   go_wp2_with fail
   go_meet
   case rel => exact ⟨rfl, rfl, rfl⟩
 case rest =>
  obtain ⟨rfl, rfl, rfl⟩ := hcut
  clear hlk1 hlk2 hlk3 hm2 c0' c1'
  obtain ⟨d, hd⟩ : ∃ d, W.heap.size = d := ⟨_, rfl⟩
  obtain ⟨V, hV, kV, D1, D2⟩ : ∃ V, W.alloc (.cells (roC r) 87) = V ∧ Kp w V ∧ Blk V (b + 1) 48 zero9 ∧ Blk V d 87 (roC r) := ⟨_, rfl, kW.alloc _, B1.alloc _, by rw [← hd]; exact Blk.new _ _ _⟩
  unfold roC at hV
  rw [hV, hd]
  have hbd : ¬ d = b + 1 := by omega
  have hbd' : ¬ b + 1 = d := by omega
  have q0 := Blk.f (l := [.int .u32 0, .int .i64 0, .int .i64 0, .int .i64 0, .int .i64 0, .int .i64 0, .int .u32 0, .int .i64 0, .bool false]) D1 rfl
  have z0 := Blk.frozen D1
  have y0 := Blk.f D2 rfl
  obtain ⟨R, hR, BR, kR⟩ : ∃ R, (((((((((V.setCell ⟨b + 1, 0, none⟩ (.int .u32 (r.p.a : Int))).setCell ⟨b + 1, 1, none⟩ (.int .i64 r.p.l)).setCell ⟨b + 1, 2, none⟩ (.int .i64 r.s)).setCell ⟨b + 1, 3, none⟩ (.int .i64 r.m)).setCell ⟨b + 1, 4, none⟩ (.int .i64 r.l)).setCell ⟨b + 1, 5, none⟩ (.int .i64 r.f)).setCell ⟨b + 1, 6, none⟩ (.int .u32 (r.x : Int))).setCell ⟨b + 1, 7, none⟩ (.int .i64 r.d)).setCell ⟨b + 1, 8, none⟩ (.bool r.c)) = R ∧ Blk R (b + 1) 48 (roC r) ∧ Kp w R := ⟨_, rfl, Blk.putRo D1 r, Kp.putRo kV (by omega) r⟩
  obtain ⟨u0, u1, u2, u3, u4, u5, u6, u7, u8⟩ := vab BR
  go_wp2_with fail
  exact ⟨rfl, .tuple #[roV r, .bool is], by simp [results, Tryz.results32, go_sem, u0, u1, u2, u3, u4, u5, u6, u7, u8], by rw [HR.out, HI.out], kR.drew⟩
end

section
open Go.RowKit Go.Maps
theorem TabM.cap_ {w : World} {B t : Nat} {F : List Nat} {T : Tb} (h : TabM w B t F T) : w.cell? ⟨t, 8, none⟩ = some (.int .i64 T.c.cap) := by
 obtain ⟨q, mp, m, A, QF, l, _, X⟩ := h
 exact X.bk.cell 8
set_option maxRecDepth 100000 in
theorem vfv (B t : Nat) (F : List Nat) (T : Tb) (pb pr pt : Nat) (there : Bool) (r : Rt) (w : World) (h : TabM w B t F T) (h0 : Blk w pb 4 #[.bool there]) (h1 : Blk w pr 48 (roC r)) (h2 : Blk w pt 36 #[.pointer (some ⟨t, 0, none⟩)]) (hr : okR r = true) (ha : r.p.a < 4294967296) (hn : T.l.length < 800000) (hf : 0 ≤ T.rf ∧ T.rf ≤ 2147483647) (e0 : there = true) :
  Calls Tryz.prog 63 #[.pointer (some ⟨pb, 0, none⟩), .pointer (some ⟨pr, 0, none⟩), .pointer (some ⟨pt, 0, none⟩)] w (fun e w' => e = .returned (.tuple #[]) ∧ TabT w w' B t F ⟨T.c, setR r T.l, T.now, T.rf⟩) := by
 obtain ⟨mp, hm, hM⟩ := h.cellm
 have hcap := h.cap_
 obtain ⟨g1, g2, g3⟩ := h.celln
 have hz := g3 12
 have hl := fun k => veM hM 3 (w.drewN k) rfl
 have c0 : w.cell? ⟨pb, 0, none⟩ = some (.bool there) := h0.cell 0
 have d0 : w.cell? ⟨pt, 0, none⟩ = some (.pointer (some ⟨t, 0, none⟩)) := h2.cell 0
 have p0 := Blk.f h1 rfl
 have HH := Lib.hid h
 have H1 := Lib.hid h1
 clear h g3 h0 h1 h2 hM
 subst e0
 go_enter Tryz.func63, Tryz.ntmps63
 go_wp2_with fail
 go_quiet (fail)
 obtain ⟨g, hg⟩ : ∃ g, w.heap.size = g := ⟨_, rfl⟩
 obtain ⟨W, hW, kW, B0⟩ : ∃ W, (w.drewN nq).alloc (.cells (roC r) 48) = W ∧ Kp w W ∧ Blk W g 48 (roC r) := ⟨_, rfl, ((Kp.refl _).drewN _).alloc _, by rw [← hg]; exact Blk.new (w.drewN nq) _ _⟩
 unfold roC at hW
 clear hl
 go_wp2_with fail
 refine (vdk B t g F T r _ (HH.out.keep kW) B0 hr ha hn).mono ?_
 rintro e w2 ⟨rfl, hT⟩
 have HT := Lib.hid (hT.trans (Only.of_kp kW) (fun _ e => .inl e))
 clear hT hW c0 d0 p0 hm hcap g1 g2 hz
 go_wp2_with fail
 go_end0
 exact ⟨rfl, HT.out⟩
set_option maxRecDepth 100000 in
theorem vgR (B t : Nat) (F : List Nat) (T : Tb) (pb pr pt : Nat) (there : Bool) (r : Rt) (w : World) (h : TabM w B t F T) (h0 : Blk w pb 4 #[.bool there]) (h1 : Blk w pr 48 (roC r)) (h2 : Blk w pt 36 #[.pointer (some ⟨t, 0, none⟩)]) (hr : okR r = true) (ha : r.p.a < 4294967296) (hn : T.l.length < 800000) (hf : 0 ≤ T.rf ∧ T.rf ≤ 2147483647) (e0 : there = false) (e1 : (r.s == 2) = false) :
  Calls Tryz.prog 63 #[.pointer (some ⟨pb, 0, none⟩), .pointer (some ⟨pr, 0, none⟩), .pointer (some ⟨pt, 0, none⟩)] w (fun e w' => e = .returned (.tuple #[]) ∧ TabT w w' B t F ⟨T.c, setR r T.l, T.now, T.rf⟩) := by
 obtain ⟨mp, hm, hM⟩ := h.cellm
 have hcap := h.cap_
 obtain ⟨g1, g2, g3⟩ := h.celln
 have hz := g3 12
 have hl := fun k => veM hM 3 (w.drewN k) rfl
 have c0 : w.cell? ⟨pb, 0, none⟩ = some (.bool there) := h0.cell 0
 have d0 : w.cell? ⟨pt, 0, none⟩ = some (.pointer (some ⟨t, 0, none⟩)) := h2.cell 0
 have p0 := Blk.f h1 rfl
 have HH := Lib.hid h
 have H1 := Lib.hid h1
 clear h g3 h0 h1 h2 hM
 subst e0
 go_enter Tryz.func63, Tryz.ntmps63
 go_wp2_with fail
 go_quiet (fail)
 obtain ⟨g, hg⟩ : ∃ g, w.heap.size = g := ⟨_, rfl⟩
 obtain ⟨W, hW, kW, B0⟩ : ∃ W, (w.drewN nq).alloc (.cells (roC r) 48) = W ∧ Kp w W ∧ Blk W g 48 (roC r) := ⟨_, rfl, ((Kp.refl _).drewN _).alloc _, by rw [← hg]; exact Blk.new (w.drewN nq) _ _⟩
 unfold roC at hW
 clear hl
 go_wp2_with fail
 refine (vdk B t g F T r _ (HH.out.keep kW) B0 hr ha hn).mono ?_
 rintro e w2 ⟨rfl, hT⟩
 have HT := Lib.hid (hT.trans (Only.of_kp kW) (fun _ e => .inl e))
 clear hT hW c0 d0 p0 hm hcap g1 g2 hz
 go_wp2_with fail
 go_end0
 exact ⟨rfl, HT.out⟩
set_option maxRecDepth 100000 in
theorem vgS (B t : Nat) (F : List Nat) (T : Tb) (pb pr pt : Nat) (there : Bool) (r : Rt) (w : World) (h : TabM w B t F T) (h0 : Blk w pb 4 #[.bool there]) (h1 : Blk w pr 48 (roC r)) (h2 : Blk w pt 36 #[.pointer (some ⟨t, 0, none⟩)]) (hr : okR r = true) (ha : r.p.a < 4294967296) (hn : T.l.length < 800000) (hf : 0 ≤ T.rf ∧ T.rf ≤ 2147483647) (e0 : there = false) (e1 : (r.s == 2) = true) (e2 : decide (T.c.cap ≤ (T.l.length : Int)) = false) :
  Calls Tryz.prog 63 #[.pointer (some ⟨pb, 0, none⟩), .pointer (some ⟨pr, 0, none⟩), .pointer (some ⟨pt, 0, none⟩)] w (fun e w' => e = .returned (.tuple #[]) ∧ TabT w w' B t F ⟨T.c, setR r T.l, T.now, T.rf⟩) := by
 obtain ⟨mp, hm, hM⟩ := h.cellm
 have hcap := h.cap_
 obtain ⟨g1, g2, g3⟩ := h.celln
 have hz := g3 12
 have hl := fun k => veM hM 3 (w.drewN k) rfl
 have c0 : w.cell? ⟨pb, 0, none⟩ = some (.bool there) := h0.cell 0
 have d0 : w.cell? ⟨pt, 0, none⟩ = some (.pointer (some ⟨t, 0, none⟩)) := h2.cell 0
 have p0 := Blk.f h1 rfl
 have HH := Lib.hid h
 have H1 := Lib.hid h1
 clear h g3 h0 h1 h2 hM
 subst e0
 go_enter Tryz.func63, Tryz.ntmps63
 go_wp2_with fail
 go_quiet (fail)
 obtain ⟨g, hg⟩ : ∃ g, w.heap.size = g := ⟨_, rfl⟩
 obtain ⟨W, hW, kW, B0⟩ : ∃ W, (w.drewN nq).alloc (.cells (roC r) 48) = W ∧ Kp w W ∧ Blk W g 48 (roC r) := ⟨_, rfl, ((Kp.refl _).drewN _).alloc _, by rw [← hg]; exact Blk.new (w.drewN nq) _ _⟩
 unfold roC at hW
 clear hl
 go_wp2_with fail
 refine (vdk B t g F T r _ (HH.out.keep kW) B0 hr ha hn).mono ?_
 rintro e w2 ⟨rfl, hT⟩
 have HT := Lib.hid (hT.trans (Only.of_kp kW) (fun _ e => .inl e))
 clear hT hW c0 d0 p0 hm hcap g1 g2 hz
 go_wp2_with fail
 go_end0
 exact ⟨rfl, HT.out⟩
set_option maxRecDepth 100000 in
theorem vgT (B t : Nat) (F : List Nat) (T : Tb) (pb pr pt : Nat) (there : Bool) (r : Rt) (w : World) (h : TabM w B t F T) (h0 : Blk w pb 4 #[.bool there]) (h1 : Blk w pr 48 (roC r)) (h2 : Blk w pt 36 #[.pointer (some ⟨t, 0, none⟩)]) (hr : okR r = true) (ha : r.p.a < 4294967296) (hn : T.l.length < 800000) (hf : 0 ≤ T.rf ∧ T.rf ≤ 2147483647) (e0 : there = false) (e1 : (r.s == 2) = true) (e2 : decide (T.c.cap ≤ (T.l.length : Int)) = true) :
  Calls Tryz.prog 63 #[.pointer (some ⟨pb, 0, none⟩), .pointer (some ⟨pr, 0, none⟩), .pointer (some ⟨pt, 0, none⟩)] w (fun e w' => e = stopB 200 ∧ TabM w' B t F ⟨T.c, T.l, T.now, min (T.rf + 1) 2147483647⟩ ∧ Only [t] w w') := by
 obtain ⟨mp, hm, hM⟩ := h.cellm
 have hcap := h.cap_
 obtain ⟨g1, g2, g3⟩ := h.celln
 have hz := g3 12
 have hl := fun k => veM hM 3 (w.drewN k) rfl
 have c0 : w.cell? ⟨pb, 0, none⟩ = some (.bool there) := h0.cell 0
 have d0 : w.cell? ⟨pt, 0, none⟩ = some (.pointer (some ⟨t, 0, none⟩)) := h2.cell 0
 have p0 := Blk.f h1 rfl
 have HH := Lib.hid h
 have H1 := Lib.hid h1
 clear h g3 h0 h1 h2 hM
 subst e0
 go_enter Tryz.func63, Tryz.ntmps63
 go_wp2_with fail
 go_quiet (fail)
 clear hl
 rcases Int.lt_or_le 2147483647 (T.rf + 1) with hrf | hrf
 ·have hmin : min (T.rf + 1) 2147483647 = 2147483647 := by omega
  go_wp2_with fail
  go_region
  all_goals go_wp2_with (first | (go_at_call 60; refine (vbV 200 (by decide) _).mono ?_; rintro e w' ⟨rfl, hw'⟩; rw [hw']; clear hw' w'))
  all_goals exact ⟨rfl, rfl, by rw [hmin]; exact (HH.out.keep ((Kp.refl w).drewN _)).rf_ _, ((Only.refl [t] w).drewN _).setCell (p := ⟨t, 12, none⟩) (.inl (by simp)) _⟩
 ·have hmin : min (T.rf + 1) 2147483647 = T.rf + 1 := by omega
  go_wp2_with fail
  go_region
  all_goals go_wp2_with (first | (go_at_call 60; refine (vbV 200 (by decide) _).mono ?_; rintro e w' ⟨rfl, hw'⟩; rw [hw']; clear hw' w'))
  all_goals exact ⟨rfl, rfl, by rw [hmin]; exact (HH.out.keep ((Kp.refl w).drewN _)).rf_ _, ((Only.refl [t] w).drewN _).setCell (p := ⟨t, 12, none⟩) (.inl (by simp)) _⟩
end

section
open Go.RowKit Go.Maps
theorem vfw (e : Int) (w : World) : (Instr.typeAssert (stopBV e) 20 111 true).run Tryz.prog w = .ok (.tuple #[.int .i64 e, .bool true]) w := by kernel_rfl
theorem vfx (w : World) : (Instr.typeAssert .nilIface 20 111 true).run Tryz.prog w = .ok (.tuple #[.int .i64 0, .bool false]) w := by kernel_rfl
def upB (e : Int) : FrameMode := .panicking [{ v := stopBV e, recovered := false }]
def caughtB (e : Int) : FrameMode := .panicking [{ v := stopBV e, recovered := true }]
theorem veh (e : Int) : recM (upB e) = (stopBV e, caughtB e) := rfl
set_option maxRecDepth 100000 in
theorem vbW (p0 p1 : Nat) (y v0 v1 v2 v3 v4 v5 v6 v7 v8 : Value) (e : Int) (w : World) (h0 : Blk w p0 48 #[v0, v1, v2, v3, v4, v5, v6, v7, v8]) (h1 : Blk w p1 53 #[y]) (n01 : ¬ p0 = p1) :
  CallsD Tryz.prog 59 #[.pointer (some ⟨p0, 0, none⟩), .pointer (some ⟨p1, 0, none⟩)] (upB e) w fun en u' w' =>
   en = .returned (.tuple #[]) ∧ u' = caughtB e ∧ Blk w' p0 48 zero9 ∧ Blk w' p1 53 #[.int .i64 e] ∧ Only [p0, p1] w w' := by
 have c0 := Blk.f (l := [v0, v1, v2, v3, v4, v5, v6, v7, v8]) h0 rfl
 have z0 := Blk.frozen h0
 have d0 : w.cell? ⟨p1, 0, none⟩ = some y := h1.cell 0
 have zd := Blk.frozen h1
 have n10 : ¬ p1 = p0 := fun h => n01 h.symm
 have hty := vfw
 obtain ⟨R, hR, BR, BE, hO⟩ : ∃ R, ((((((((((w.setCell ⟨p0, 0, none⟩ (.int .u32 0)).setCell ⟨p0, 1, none⟩ (.int .i64 0)).setCell ⟨p0, 2, none⟩ (.int .i64 0)).setCell ⟨p0, 3, none⟩ (.int .i64 0)).setCell ⟨p0, 4, none⟩ (.int .i64 0)).setCell ⟨p0, 5, none⟩ (.int .i64 0)).setCell ⟨p0, 6, none⟩ (.int .u32 0)).setCell ⟨p0, 7, none⟩ (.int .i64 0)).setCell ⟨p0, 8, none⟩ (.bool false)).setCell ⟨p1, 0, none⟩ (.int .i64 e)) = R ∧ Blk R p0 48 zero9 ∧ Blk R p1 53 #[.int .i64 e] ∧ Only [p0, p1] w R :=
  ⟨_, rfl, (Blk.putRo h0 zeroR).far (p := ⟨p1, 0, none⟩) n01 _, (((((((((h1.far (p := ⟨p0, 0, none⟩) n10 (.int .u32 0)).far (p := ⟨p0, 1, none⟩) n10 (.int .i64 0)).far (p := ⟨p0, 2, none⟩) n10 (.int .i64 0)).far (p := ⟨p0, 3, none⟩) n10 (.int .i64 0)).far (p := ⟨p0, 4, none⟩) n10 (.int .i64 0)).far (p := ⟨p0, 5, none⟩) n10 (.int .i64 0)).far (p := ⟨p0, 6, none⟩) n10 (.int .u32 0)).far (p := ⟨p0, 7, none⟩) n10 (.int .i64 0)).far (p := ⟨p0, 8, none⟩) n10 (.bool false)).set_ 0 (.int .i64 e), ((((((((((Only.refl [p0, p1] w).setCell (p := ⟨p0, 0, none⟩) (.inl (by simp)) (.int .u32 0)).setCell (p := ⟨p0, 1, none⟩) (.inl (by simp)) (.int .i64 0)).setCell (p := ⟨p0, 2, none⟩) (.inl (by simp)) (.int .i64 0)).setCell (p := ⟨p0, 3, none⟩) (.inl (by simp)) (.int .i64 0)).setCell (p := ⟨p0, 4, none⟩) (.inl (by simp)) (.int .i64 0)).setCell (p := ⟨p0, 5, none⟩) (.inl (by simp)) (.int .i64 0)).setCell (p := ⟨p0, 6, none⟩) (.inl (by simp)) (.int .u32 0)).setCell (p := ⟨p0, 7, none⟩) (.inl (by simp)) (.int .i64 0)).setCell (p := ⟨p0, 8, none⟩) (.inl (by simp)) (.bool false)).setCell (p := ⟨p1, 0, none⟩) (.inl (by simp)) (.int .i64 e)⟩
 refine vai _ _ (veh e) Tryz.func59 rfl rfl rfl ?_
 simp only [Tryz.ntmps59, Act.put, List.size_toArray, List.length_cons, List.length_nil, Nat.reduceAdd, Nat.reduceSub, Array.replicate_succ, Array.replicate_zero, List.push_toArray, List.append_toArray, List.nil_append, List.cons_append]
 go_wp2_with fail
 go_end0
 exact ⟨rfl, trivial, BR, BE, hO⟩
set_option maxRecDepth 100000 in
theorem vgU (p0 p1 : Value) (w : World) :
  CallsD Tryz.prog 59 #[p0, p1] .returning w fun en u' w' => en = .returned (.tuple #[]) ∧ u' = .returning ∧ w' = w := by
 have hty := vfx
 refine vai _ _ vbS Tryz.func59 rfl rfl rfl ?_
 simp only [Tryz.ntmps59, Act.put, List.size_toArray, List.length_cons, List.length_nil, Nat.reduceAdd, Nat.reduceSub, Array.replicate_succ, Array.replicate_zero, List.push_toArray, List.append_toArray, List.nil_append, List.cons_append]
 go_wp2_with fail
 go_end0
 exact ⟨rfl, trivial, rfl⟩
set_option maxRecDepth 100000 in
theorem vbX (p0 p1 : Nat) (y v0 : Value) (e : Int) (w : World) (h0 : Blk w p0 3 #[v0]) (h1 : Blk w p1 53 #[y]) (n01 : ¬ p0 = p1) :
  CallsD Tryz.prog 65 #[.pointer (some ⟨p0, 0, none⟩), .pointer (some ⟨p1, 0, none⟩)] (upB e) w fun en u' w' =>
   en = .returned (.tuple #[]) ∧ u' = caughtB e ∧ Blk w' p0 3 #[.int .i64 0] ∧ Blk w' p1 53 #[.int .i64 e] ∧ Only [p0, p1] w w' := by
 have c0 : w.cell? ⟨p0, 0, none⟩ = some (v0) := h0.cell 0
 have z0 := Blk.frozen h0
 have d0 : w.cell? ⟨p1, 0, none⟩ = some y := h1.cell 0
 have zd := Blk.frozen h1
 have n10 : ¬ p1 = p0 := fun h => n01 h.symm
 have hty := vfw
 obtain ⟨R, hR, BR, BE, hO⟩ : ∃ R, ((w.setCell ⟨p0, 0, none⟩ (.int .i64 0)).setCell ⟨p1, 0, none⟩ (.int .i64 e)) = R ∧ Blk R p0 3 #[.int .i64 0] ∧ Blk R p1 53 #[.int .i64 e] ∧ Only [p0, p1] w R :=
  ⟨_, rfl, (h0.set_ 0 (.int .i64 0)).far (p := ⟨p1, 0, none⟩) n01 _, (h1.far (p := ⟨p0, 0, none⟩) n10 (.int .i64 0)).set_ 0 (.int .i64 e), ((Only.refl [p0, p1] w).setCell (p := ⟨p0, 0, none⟩) (.inl (by simp)) (.int .i64 0)).setCell (p := ⟨p1, 0, none⟩) (.inl (by simp)) (.int .i64 e)⟩
 refine vai _ _ (veh e) Tryz.func65 rfl rfl rfl ?_
 simp only [Tryz.ntmps65, Act.put, List.size_toArray, List.length_cons, List.length_nil, Nat.reduceAdd, Nat.reduceSub, Array.replicate_succ, Array.replicate_zero, List.push_toArray, List.append_toArray, List.nil_append, List.cons_append]
 go_wp2_with fail
 go_end0
 exact ⟨rfl, trivial, BR, BE, hO⟩
set_option maxRecDepth 100000 in
theorem vgV (p0 p1 : Value) (w : World) :
  CallsD Tryz.prog 65 #[p0, p1] .returning w fun en u' w' => en = .returned (.tuple #[]) ∧ u' = .returning ∧ w' = w := by
 have hty := vfx
 refine vai _ _ vbS Tryz.func65 rfl rfl rfl ?_
 simp only [Tryz.ntmps65, Act.put, List.size_toArray, List.length_cons, List.length_nil, Nat.reduceAdd, Nat.reduceSub, Array.replicate_succ, Array.replicate_zero, List.push_toArray, List.append_toArray, List.nil_append, List.cons_append]
 go_wp2_with fail
 go_end0
 exact ⟨rfl, trivial, rfl⟩
set_option maxRecDepth 100000 in
theorem vgW (p0 p1 : Nat) (y v0 : Value) (e : Int) (w : World) (h0 : Blk w p0 3 #[v0]) (h1 : Blk w p1 53 #[y]) (n01 : ¬ p0 = p1) :
  CallsD Tryz.prog 69 #[.pointer (some ⟨p0, 0, none⟩), .pointer (some ⟨p1, 0, none⟩)] (upB e) w fun en u' w' =>
   en = .returned (.tuple #[]) ∧ u' = caughtB e ∧ Blk w' p0 3 #[.int .i64 0] ∧ Blk w' p1 53 #[.int .i64 e] ∧ Only [p0, p1] w w' := by
 have c0 : w.cell? ⟨p0, 0, none⟩ = some (v0) := h0.cell 0
 have z0 := Blk.frozen h0
 have d0 : w.cell? ⟨p1, 0, none⟩ = some y := h1.cell 0
 have zd := Blk.frozen h1
 have n10 : ¬ p1 = p0 := fun h => n01 h.symm
 have hty := vfw
 obtain ⟨R, hR, BR, BE, hO⟩ : ∃ R, ((w.setCell ⟨p0, 0, none⟩ (.int .i64 0)).setCell ⟨p1, 0, none⟩ (.int .i64 e)) = R ∧ Blk R p0 3 #[.int .i64 0] ∧ Blk R p1 53 #[.int .i64 e] ∧ Only [p0, p1] w R :=
  ⟨_, rfl, (h0.set_ 0 (.int .i64 0)).far (p := ⟨p1, 0, none⟩) n01 _, (h1.far (p := ⟨p0, 0, none⟩) n10 (.int .i64 0)).set_ 0 (.int .i64 e), ((Only.refl [p0, p1] w).setCell (p := ⟨p0, 0, none⟩) (.inl (by simp)) (.int .i64 0)).setCell (p := ⟨p1, 0, none⟩) (.inl (by simp)) (.int .i64 e)⟩
 refine vai _ _ (veh e) Tryz.func69 rfl rfl rfl ?_
 simp only [Tryz.ntmps69, Act.put, List.size_toArray, List.length_cons, List.length_nil, Nat.reduceAdd, Nat.reduceSub, Array.replicate_succ, Array.replicate_zero, List.push_toArray, List.append_toArray, List.nil_append, List.cons_append]
 go_wp2_with fail
 go_end0
 exact ⟨rfl, trivial, BR, BE, hO⟩
set_option maxRecDepth 100000 in
theorem viv (p0 p1 : Value) (w : World) :
  CallsD Tryz.prog 69 #[p0, p1] .returning w fun en u' w' => en = .returned (.tuple #[]) ∧ u' = .returning ∧ w' = w := by
 have hty := vfx
 refine vai _ _ vbS Tryz.func69 rfl rfl rfl ?_
 simp only [Tryz.ntmps69, Act.put, List.size_toArray, List.length_cons, List.length_nil, Nat.reduceAdd, Nat.reduceSub, Array.replicate_succ, Array.replicate_zero, List.push_toArray, List.append_toArray, List.nil_append, List.cons_append]
 go_wp2_with fail
 go_end0
 exact ⟨rfl, trivial, rfl⟩
theorem vmE (c : Cf) (p : PI) (h : Hd) (now : Int) : (hearR c (noR p) h now).s = 0 ∨ (hearR c (noR p) h now).s = 2 := by
 unfold hearR
 rw [if_neg (show ¬ (noR p).s = 1 from (by decide : ¬ (0 : Int) = 1)), if_neg (show ¬ (noR p).s = 2 from (by decide : ¬ (0 : Int) = 2)), if_neg (show ¬ (noR p).s = 3 from (by decide : ¬ (0 : Int) = 3))]
 split
 ·exact .inr rfl
 ·exact .inl rfl
def Hear2P (B t : Nat) (F : List Nat) (T : Tb) (full : Bool) (r : Rt) (w : World) (e : Ending) (w' : World) : Prop := (full = true → e = stopB 200 ∧ TabM w' B t F ⟨T.c, T.l, T.now, min (T.rf + 1) 2147483647⟩ ∧ Only [t] w w') ∧ (full = false → e = .returned (.tuple #[]) ∧ TabT w w' B t F ⟨T.c, setR r T.l, T.now, T.rf⟩)
theorem viw (B t : Nat) (F : List Nat) (T : Tb) (pb pr pt : Nat) (p : PI) (h : Hd) (now : Int) (r : Rt) (w : World) (hM : TabM w B t F T) (h0 : Blk w pb 4 #[.bool (getR p T.l).isSome]) (h1 : Blk w pr 48 (roC r)) (h2 : Blk w pt 36 #[.pointer (some ⟨t, 0, none⟩)]) (hr : okR r = true) (ha : r.p.a < 4294967296) (hn : T.l.length < 800000) (hf : 0 ≤ T.rf ∧ T.rf ≤ 2147483647) (he : r = hearR T.c (wasR p T.l) h now) :
  Calls Tryz.prog 63 #[.pointer (some ⟨pb, 0, none⟩), .pointer (some ⟨pr, 0, none⟩), .pointer (some ⟨pt, 0, none⟩)] w (Hear2P B t F T (fullB T p r) r w) := by
 cases hg : getR p T.l with
 | some x =>
  rw [hg] at h0
  have hb : fullB T p r = false := by unfold fullB; rw [hg]; rfl
  refine (vfv B t F T pb pr pt true r w hM h0 h1 h2 hr ha hn hf rfl).mono ?_
  rintro e w' hE
  exact ⟨fun z => (by rw [hb] at z; cases z), fun _ => hE⟩
 | none =>
  rw [hg] at h0
  have hw : wasR p T.l = noR p := by unfold wasR; rw [hg]; rfl
  have hs : r.s = 0 ∨ r.s = 2 := by rw [he, hw]; exact vmE _ _ _ _
  rcases hs with hs | hs
  ·have hb : fullB T p r = false := by unfold fullB; rw [decide_eq_false (by omega)]; simp
   refine (vgR B t F T pb pr pt false r w hM h0 h1 h2 hr ha hn hf rfl (beqF (by omega))).mono ?_
   rintro e w' hE
   exact ⟨fun z => (by rw [hb] at z; cases z), fun _ => hE⟩
  ·cases hc : decide (T.c.cap ≤ (T.l.length : Int)) with
   | true =>
    have hb : fullB T p r = true := by unfold fullB; rw [hg, decide_eq_true (by omega), hc]; rfl
    refine (vgT B t F T pb pr pt false r w hM h0 h1 h2 hr ha hn hf rfl (beqT hs) hc).mono ?_
    rintro e w' hE
    exact ⟨fun _ => hE, fun z => (by rw [hb] at z; cases z)⟩
   | false =>
    have hb : fullB T p r = false := by unfold fullB; rw [hc]; simp
    refine (vgS B t F T pb pr pt false r w hM h0 h1 h2 hr ha hn hf rfl (beqT hs) hc).mono ?_
    rintro e w' hE
    exact ⟨fun z => (by rw [hb] at z; cases z), fun _ => hE⟩
end

end Go.Proofs.YtffckpkikdlbpaaGreatDoor
