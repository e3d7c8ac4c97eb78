/- Lemmas and contracts for the theorem of this claim: SoK, SoM, SoN, SoO. -/
import Derived.Test.YtffckpkikdlbpaaGreatDoorZvBi
set_option linter.all false
set_option maxHeartbeats 16000000
namespace Go.Proofs.YtffckpkikdlbpaaGreatDoor
section
open Go.RowKit Go.Maps
set_option maxRecDepth 100000 in
theorem vfM (B t : Nat) (F : List Nat) (T : Tb) (w : World) (h : TabM w B t F T) (hn : T.c.own.length ≤ 1000000) : Calls Tryz.prog 36 #[.pointer (some ⟨t, 0, none⟩)] w (CCopyP T.c w) := by
 obtain ⟨q, mp, m, A, QF, l, _, X⟩ := h
 obtain ⟨b, hb⟩ : ∃ b, w.heap.size = b := ⟨_, rfl⟩
 obtain ⟨W, hW, kW, B0⟩ := Blk.al1 hb #[.int .i64 0, .int .i64 0, .int .i64 0, .int .i64 0, .int .i64 0, .int .i64 0, .int .i64 0, .int .i64 0, .slice none 0 0] 24
 have hbW := B0.lt
 have XW := X.keep kW
 have hm : W.cell? ⟨t, 10, none⟩ = some (.map (some mp)) := XW.bk.cell 10
 obtain ⟨-, g0, g1, g2, g3, g4, g5, g6, g7, g8⟩ := Blk.v10 XW.bk _ (.int .i64 T.c.t0) (.int .i64 T.c.t1) (.int .i64 T.c.t2) (.int .i64 T.c.t3) (.int .i64 T.c.t4) (.int .i64 T.c.t5) (.int .i64 T.c.t6) (.int .i64 T.c.cap) (.slice A T.c.own.length m) rfl
 have HSL := Lib.hid (SlPI.of_own XW.ow)
 clear X XW
 go_enter Tryz.func36, Tryz.ntmps36
 go_wp2_with (first | (go_at_call 56; refine (vah t mp _ hm).mono ?_; rintro e w' ⟨rfl, hw'⟩; rw [hw']; clear hw' w'))
 refine (vdg T.c A m _ HSL.out hn).mono ?_
 rintro e w1 ⟨A', m', rfl, hO, K1⟩
 have B1 := B0.keep K1
 have k1 := kW.trans K1
 have HO2 := Lib.hid (hO.mono (base' := b + 1) hbW)
 clear hO
 clear g0 g1 g2 g3 g4 g5 g6 g7 g8 hW hm
 have q0 : w1.cell? ⟨b, 0, none⟩ = some (.int .i64 0) := B1.cell 0
 have z0 := Blk.frozen B1
 have q1 : w1.cell? ⟨b, 1, none⟩ = some (.int .i64 0) := B1.cell 1
 have z1 := B1.frozen 1
 have q2 : w1.cell? ⟨b, 2, none⟩ = some (.int .i64 0) := B1.cell 2
 have z2 := B1.frozen 2
 have q3 : w1.cell? ⟨b, 3, none⟩ = some (.int .i64 0) := B1.cell 3
 have z3 := B1.frozen 3
 have q4 : w1.cell? ⟨b, 4, none⟩ = some (.int .i64 0) := B1.cell 4
 have z4 := B1.frozen 4
 have q5 : w1.cell? ⟨b, 5, none⟩ = some (.int .i64 0) := B1.cell 5
 have z5 := B1.frozen 5
 have q6 : w1.cell? ⟨b, 6, none⟩ = some (.int .i64 0) := B1.cell 6
 have z6 := B1.frozen 6
 have q7 : w1.cell? ⟨b, 7, none⟩ = some (.int .i64 0) := B1.cell 7
 have z7 := B1.frozen 7
 have q8 := Blk.f B1 rfl
 have z8 := B1.frozen 8
 go_wp2_with fail
 obtain ⟨W3, hW3, B6, k3, hO3⟩ : ∃ W3, cfSet w1 b T.c A' T.c.own.length m' = W3 ∧ Blk W3 b 24 (cfC T.c A' T.c.own.length m') ∧ Kp w W3 ∧ Own W3 w.heap.size 29 2 PI.enc (.slice A' T.c.own.length m') T.c.own :=
  ⟨_, rfl, B1.putCf T.c A' T.c.own.length m', k1.putCf (by omega) T.c A' T.c.own.length m', (HO2.out.putCf (by omega) T.c A' T.c.own.length m').mono (by omega)⟩
 unfold cfSet at hW3
 rw [hW3]
 clear hW3 q0 q1 q2 q3 q4 q5 q6 q7 q8 z0 z1 z2 z3 z4 z5 z6 z7 z8
 obtain ⟨y0, y1, y2, y3, y4, y5, y6, y7, y8⟩ := vgc B6
 exact ⟨rfl, cfV T.c A' T.c.own.length m', by simp [results, Tryz.results36, go_sem, y0, y1, y2, y3, y4, y5, y6, y7, y8], A', m', rfl, hO3, k3⟩
def TCopyP (T : Tb) (w : World) (e : Ending) (w' : World) : Prop := ∃ t F, e = .returned (.pointer (some ⟨t, 0, none⟩)) ∧ TabM w' w.heap.size t F T ∧ Kp w w'
theorem TCopyP.mk {T : Tb} {w w4 : World} {q mp m : Nat} {A : Option Addr} {QF : List Nat} {l : List Tw} (S : QuS w4 w.heap.size q QF l) (O : Own w4 w.heap.size 29 2 PI.enc (.slice A T.c.own.length m) T.c.own) (M : MapR w4 mp T.l) (hm : w.heap.size ≤ mp) (pm : l.Perm (armL T.l))
  (hmq : mp ∉ QF) (han : ∀ a, A = some a → a.block ∉ QF ∧ a.block ≠ mp) (K : Kp w w4) (u : UpR T.l) (wf : ∀ r ∈ T.l, wfP r.p) (n : T.l.length ≤ 900000) : TCopyP T w (.returned (.pointer (some ⟨w4.heap.size, 0, none⟩))) (w4.alloc (.cells (tbC q T A m mp) 107)) := by
 have al : Kp w4 (w4.alloc (.cells (tbC q T A m mp) 107)) := (Kp.refl _).alloc _
 exact ⟨w4.heap.size, _, rfl, ⟨q, mp, m, A, QF, l, rfl, Blk.new _ _ _, S.keep al, pm, M.keep al, O.keep al, fun e => by have := (S.lo _ e).2; omega, hmq, fun e => by have := M.lt; omega, fun a e => ⟨(han a e).1, fun z => by have := (vbx O a e).2; omega, (han a e).2⟩, K.size, hm, u, wf, n⟩, K.trans al⟩
set_option maxRecDepth 100000 in
theorem vfc (B t : Nat) (F : List Nat) (T : Tb) (w : World) (h : TabM w B t F T) (hn : T.c.own.length ≤ 1000000) : Calls Tryz.prog 19 #[.pointer (some ⟨t, 0, none⟩)] w (TCopyP T w) := by
 obtain ⟨q, mp, m, A, QF, l, _, X⟩ := h
 obtain ⟨W, hWw⟩ : ∃ W, W = w := ⟨_, rfl⟩
 have XW : TabX W B t q mp m A QF l T := by rw [hWw]; exact X
 have gq : W.cell? ⟨t, 0, none⟩ = some (.pointer (some ⟨q, 0, none⟩)) := XW.bk.cell 0
 have g0 : W.cell? ⟨t, 1, none⟩ = some (.int .i64 T.c.t0) := XW.bk.cell 1
 have g1 : W.cell? ⟨t, 2, none⟩ = some (.int .i64 T.c.t1) := XW.bk.cell 2
 have g2 : W.cell? ⟨t, 3, none⟩ = some (.int .i64 T.c.t2) := XW.bk.cell 3
 have g3 : W.cell? ⟨t, 4, none⟩ = some (.int .i64 T.c.t3) := XW.bk.cell 4
 have g4 : W.cell? ⟨t, 5, none⟩ = some (.int .i64 T.c.t4) := XW.bk.cell 5
 have g5 : W.cell? ⟨t, 6, none⟩ = some (.int .i64 T.c.t5) := XW.bk.cell 6
 have g6 : W.cell? ⟨t, 7, none⟩ = some (.int .i64 T.c.t6) := XW.bk.cell 7
 have g7 : W.cell? ⟨t, 8, none⟩ = some (.int .i64 T.c.cap) := XW.bk.cell 8
 have g8 : W.cell? ⟨t, 9, none⟩ = some (.slice A T.c.own.length m) := XW.bk.cell 9
 have hm : W.cell? ⟨t, 10, none⟩ = some (.map (some mp)) := XW.bk.cell 10
 have gn : W.cell? ⟨t, 11, none⟩ = some (.int .i64 T.now) := XW.bk.cell 11
 have gf : W.cell? ⟨t, 12, none⟩ = some (.int .i64 T.rf) := XW.bk.cell 12
 subst hWw
 have hl := X.len
 have HX := Lib.hid X
 have HSL := Lib.hid (SlPI.of_own X.ow)
 clear X XW
 go_enter Tryz.func19, Tryz.ntmps19
 go_upto_region 3 with (first | (go_at_call 56; refine (vah t mp _ hm).mono ?_; rintro e w' ⟨rfl, hw'⟩; rw [hw']; clear hw' w'))
 have K : Kp W W.drew := (Kp.refl W).drew
 go_region_held3 (fun w' => w'.cell? ⟨t, 0, none⟩ = some (.pointer (some ⟨q, 0, none⟩)) ∧ w'.cell? ⟨t, 1, none⟩ = some (.int .i64 T.c.t0) ∧ w'.cell? ⟨t, 2, none⟩ = some (.int .i64 T.c.t1) ∧ w'.cell? ⟨t, 3, none⟩ = some (.int .i64 T.c.t2) ∧ w'.cell? ⟨t, 4, none⟩ = some (.int .i64 T.c.t3) ∧ w'.cell? ⟨t, 5, none⟩ = some (.int .i64 T.c.t4) ∧ w'.cell? ⟨t, 6, none⟩ = some (.int .i64 T.c.t5) ∧ w'.cell? ⟨t, 7, none⟩ = some (.int .i64 T.c.t6) ∧ w'.cell? ⟨t, 8, none⟩ = some (.int .i64 T.c.cap) ∧ w'.cell? ⟨t, 9, none⟩ = some (.slice A T.c.own.length m) ∧ w'.cell? ⟨t, 10, none⟩ = some (.map (some mp)) ∧ w'.cell? ⟨t, 11, none⟩ = some (.int .i64 T.now) ∧ w'.cell? ⟨t, 12, none⟩ = some (.int .i64 T.rf))
  (first | exact ⟨K.cell gq, K.cell g0, K.cell g1, K.cell g2, K.cell g3, K.cell g4, K.cell g5, K.cell g6, K.cell g7, K.cell g8, K.cell hm, K.cell gn, K.cell gf⟩ | go_keep)
  (first
   | (go_at_call 57; refine (vnd B q QF l _ (HX.out.qs.keep K) hl).mono ?_; rintro e wq ⟨q2, QF2, rfl, hq, hKq⟩; have hlq := hq.lo; have hq := hq.mono (Kp.size K); (try (have ho := ho.keep hKq)); (try (have hr := hr.keep hKq)); have hzq := hKq.size; have K := K.trans hKq)
   | (go_at_call 53; refine (vdg T.c A m _ (HSL.out.keep K) hn).mono ?_; rintro e wo ⟨A2, m2, rfl, ho, hKo⟩; have hlo := vbx ho; have ho := ho.mono (Kp.size K); (try (have hq := hq.keep hKo)); (try (have hr := hr.keep hKo)); have hzo := hKo.size; have K := K.trans hKo)
   | (go_at_call 58; refine (vhy mp T.l _ (HX.out.mr.keep K)).mono ?_; rintro e wm ⟨mp2, rfl, hr0, hr, hKm⟩; have hr1 := hr.lt; (try (have hq := hq.keep hKm)); (try (have ho := ho.keep hKm)); have hzm := hKm.size; have K := K.trans hKm))
 all_goals
  have hdr : W.drew.heap.size = W.heap.size := rfl
  have HF := Lib.hid (TCopyP.mk (T := T) (w := W) hq ho hr (by omega) HX.out.pm (fun e => by have := hlq _ e; omega) (fun a e => ⟨fun z => by have := hlq _ z; have := hlo a e; omega, by have := hlo a e; omega⟩) K HX.out.u HX.out.wf HX.out.n)
  clear hlq hlo hzq hzo hzm hr0 hr1 hq ho hr hdr
  unfold tbC at HF
  go_wp2_with fail
  go_ret
  exact HF.out
end

section
open Go.RowKit
set_option maxRecDepth 100000 in
theorem vgv (w : World) (a l b k : Int) : (binOp .neq 29 (.agg #[.int .u32 a, .int .i64 l]) (.agg #[.int .u32 b, .int .i64 k])).run Tryz.prog w = .ok (.bool (!(a == b && l == k))) w := by
 rw [run_neq_struct, run_equalIn_agg w 9999 _ _ _ Tryz.underlying29 (by kernel_rfl)]
 simp [Op.eqFields, part, go_sem, Tryz.underlying3, Tryz.underlying27]
 by_cases h1 : a = b <;> by_cases h2 : l = k <;> simp [h1, h2]
theorem vgw (p q : PI) : ((p.a : Int) == (q.a : Int) && p.l == q.l) = decide (p = q) := by
 rw [Bool.eq_iff_iff]
 simp only [Bool.and_eq_true, beq_iff_eq, decide_eq_true_eq]
 exact ⟨fun h => PI.ext' (by omega) h.2, fun h => by subst h; exact ⟨rfl, rfl⟩⟩
theorem vfd {ps qs : List PI} {k : Nat} (h1 : k < ps.length) (h2 : k < qs.length) (h : ps.take k = qs.take k) (e : ps[k] = qs[k]) : ps.take (k + 1) = qs.take (k + 1) := by
 rw [List.take_succ_eq_append_getElem h1, List.take_succ_eq_append_getElem h2, h, e]
set_option maxRecDepth 100000 in
theorem vne (A B : Option Addr) (c d : Nat) (ps qs : List PI) (w : World) (hR : Rd w 2 PI.enc A ps) (hQ : Rd w 2 PI.enc B qs) (hn : ps.length ≤ 1000000) (hn2 : qs.length ≤ 1000000) :
  Calls Tryz.prog 116 #[.slice A ps.length c, .slice B qs.length d] w fun e w' => e = .returned (.bool (decide (ps = qs))) ∧ Kp w w' := by
 by_cases hl : ps.length = qs.length
 ·have hln : ((ps.length : Int) != (qs.length : Int)) = false := by simp [hl]
  have hle : ps.length = qs.length := hl
  have HLE := Lib.hid hle
  have HR := Lib.hid hR
  have HQ := Lib.hid hQ
  clear hl hle hR hQ
  go_enter Tryz.func116, Tryz.ntmps116
  go_wp2_with fail
  go_loopw [13] (fun i wr => ∃ k : Nat, k ≤ ps.length ∧ i = .int .i64 k ∧ Hid (ps.take k = qs.take k) ∧ Kp w wr) (fun i _ => ps.length - (intOf i).toNat)
  case atStart => exact ⟨0, Nat.zero_le _, rfl, Lib.hid rfl, Kp.refl _⟩
  case round =>
   obtain ⟨k, hk, rfl, hall, hK⟩ := hrel
   by_cases hlt : k < ps.length
   ·have hlt2 : k < qs.length := by have := HLE.out; omega
    have hgi : (k : Int) < (ps.length : Int) := by omega
    have hgj : (k : Int) < (qs.length : Int) := by omega
    have hg0 : (0 : Int) ≤ (k : Int) := by omega
    obtain ⟨b, off, rfl, c0, c1⟩ := pi_at (HR.out.keep hK) hlt
    obtain ⟨b', off', rfl, d0, d1⟩ := pi_at (HQ.out.keep hK) hlt2
    have hne := fun u => vgv u (ps[k].a : Int) ps[k].l (qs[k].a : Int) qs[k].l
    simp only [vgw] at hne
    by_cases he : ps[k] = qs[k]
    ·rw [decide_eq_true he] at hne
     have H := Lib.hid (vfd hlt hlt2 hall.out he)
     clear he
     go_wp2_with fail
     go_quiet (fail)
     go_wp2_with fail
     go_roundw
     case rel => exact ⟨k + 1, by omega, by go_num, H, hK.drewN _⟩
     case measure => simp [intOf]; omega
    ·rw [decide_eq_false he] at hne
     have H := Lib.hid (show decide (ps = qs) = false from decide_eq_false (fun e => he (by subst e; rfl)))
     clear he
     go_wp2_with fail
     go_quiet (fail)
     go_wp2_with fail
     go_ret
     exact ⟨by rw [H.out] <;> rfl, hK.drewN _⟩
   ·obtain rfl : k = ps.length := by omega
    have H := Lib.hid (show decide (ps = qs) = true from decide_eq_true (by
     have h1 := hall.out
     rwa [List.take_length, HLE.out, List.take_length] at h1))
    go_wp2_with fail
    go_ret
    exact ⟨by rw [H.out] <;> rfl, hK⟩
 ·have hln : ((ps.length : Int) != (qs.length : Int)) = true := by simp; omega
  have H := Lib.hid (show decide (ps = qs) = false from decide_eq_false (fun e => hl (by rw [e])))
  clear hl hR hQ
  go_enter Tryz.func116, Tryz.ntmps116
  go_wp2_with fail
  go_ret
  exact ⟨by rw [H.out] <;> rfl, Kp.refl _⟩
def spF (k : Nat) : FuncId := match k with | 0 => 145 | 1 => 146 | 2 => 147 | 3 => 148 | 4 => 149 | 5 => 150 | _ => 151
theorem seven {k : Nat} (h : k < 7) : k = 0 ∨ k = 1 ∨ k = 2 ∨ k = 3 ∨ k = 4 ∨ k = 5 ∨ k = 6 := by omega
theorem vnD (k : Nat) (hk : k < 7) (c : Cf) (A : Option Addr) (n m : Nat) (w : World) : Calls Tryz.prog (spF k) #[cfV c A n m] w fun e w' => e = .returned (.int .i64 (c.t k)) ∧ Kp w w' := by
 rcases seven hk with rfl | rfl | rfl | rfl | rfl | rfl | rfl
 ·exact vih c A n m w
 ·exact vii c A n m w
 ·exact vij c A n m w
 ·exact vik c A n m w
 ·exact vil c A n m w
 ·exact vim c A n m w
 ·exact vin c A n m w
theorem vln (k : Nat) (hk : k < 7) : ∀ (args : Array Value) (w : World), (callFunc (spF k) args).run Tryz.prog w = .ok (.enter (spF k) args) w := by
 rcases seven hk with rfl | rfl | rfl | rfl | rfl | rfl | rfl
 ·intro args w
  have h : (callFunc 145 args).run Tryz.prog w = .ok (.enter 145 args) w := by kernel_rfl
  simpa only [spF] using h
 ·intro args w
  have h : (callFunc 146 args).run Tryz.prog w = .ok (.enter 146 args) w := by kernel_rfl
  simpa only [spF] using h
 ·intro args w
  have h : (callFunc 147 args).run Tryz.prog w = .ok (.enter 147 args) w := by kernel_rfl
  simpa only [spF] using h
 ·intro args w
  have h : (callFunc 148 args).run Tryz.prog w = .ok (.enter 148 args) w := by kernel_rfl
  simpa only [spF] using h
 ·intro args w
  have h : (callFunc 149 args).run Tryz.prog w = .ok (.enter 149 args) w := by kernel_rfl
  simpa only [spF] using h
 ·intro args w
  have h : (callFunc 150 args).run Tryz.prog w = .ok (.enter 150 args) w := by kernel_rfl
  simpa only [spF] using h
 ·intro args w
  have h : (callFunc 151 args).run Tryz.prog w = .ok (.enter 151 args) w := by kernel_rfl
  simpa only [spF] using h
theorem vnE (n : Nat → ByteArray) (k : Nat) (hk : k < 7) {w : World} {g : Nat} (h : Blk w g 176 (spC n)) : w.cell? ⟨g, k * 3, none⟩ = some (.string (n k)) ∧ w.cell? ⟨g, k * 3 + 1, none⟩ = some (.int .i64 (leastS k)) ∧ w.cell? ⟨g, k * 3 + 2, none⟩ = some (.func (.func (spF k)) #[] #[]) := by
 rcases seven hk with rfl | rfl | rfl | rfl | rfl | rfl | rfl
 ·exact ⟨h.cell 0, h.cell 1, h.cell 2⟩
 ·exact ⟨h.cell 3, h.cell 4, h.cell 5⟩
 ·exact ⟨h.cell 6, h.cell 7, h.cell 8⟩
 ·exact ⟨h.cell 9, h.cell 10, h.cell 11⟩
 ·exact ⟨h.cell 12, h.cell 13, h.cell 14⟩
 ·exact ⟨h.cell 15, h.cell 16, h.cell 17⟩
 ·exact ⟨h.cell 18, h.cell 19, h.cell 20⟩
def sevenB (c e : Cf) : Bool := (List.range 7).all (fun k => decide (c.t k = e.t k))
theorem vdR {c e : Cf} : sevenB c e = true ↔ ∀ k, k < 7 → c.t k = e.t k := by
 unfold sevenB
 rw [List.all_eq_true]
 exact ⟨fun h k hk => by simpa using h k (List.mem_range.2 hk), fun h k hk => by simpa using h k (List.mem_range.1 hk)⟩
def sameC (c e : Cf) : Bool := sevenB c e && (decide (c.cap = e.cap) && decide (c.own = e.own))
theorem vdt {c e : Cf} : sameC c e = true ↔ c = e := by
 unfold sameC
 simp only [Bool.and_eq_true, decide_eq_true_eq, vdR]
 constructor
 ·rintro ⟨h, h1, h2⟩
  have a0 := h 0 (by omega)
  have a1 := h 1 (by omega)
  have a2 := h 2 (by omega)
  have a3 := h 3 (by omega)
  have a4 := h 4 (by omega)
  have a5 := h 5 (by omega)
  have a6 := h 6 (by omega)
  cases c
  cases e
  simp only [Cf.t] at a0 a1 a2 a3 a4 a5 a6 h1 h2
  subst a0 a1 a2 a3 a4 a5 a6 h1 h2
  rfl
 ·rintro rfl
  exact ⟨fun _ _ => rfl, rfl, rfl⟩
set_option maxRecDepth 100000 in
theorem vcv (c e : Cf) (A B : Option Addr) (m n : Nat) (w : World) (hS : SlPI w A m c.own) (hQ : SlPI w B n e.own) (hn : c.own.length ≤ 1000000) (hn2 : e.own.length ≤ 1000000) :
  Calls Tryz.prog 76 #[cfV c A c.own.length m, cfV e B e.own.length n] w fun en w' => en = .returned (.bool (sameC c e)) ∧ Kp w w' := by
 obtain ⟨b, hb⟩ : ∃ b, w.heap.size = b := ⟨_, rfl⟩
 obtain ⟨W, hW, kW, B0, B1⟩ := Blk.al2 hb (cfC c A c.own.length m) 24 (cfC e B e.own.length n) 24
 have HS := Lib.hid hS
 have HQ := Lib.hid hQ
 unfold cfC at hW
 clear hS hQ
 go_enter Tryz.func76, Tryz.ntmps76
 go_wp2_with fail
 clear hW
 refine (veB _).mono ?_
 rintro en w1 ⟨g, nm, rfl, BG, hg, K1⟩
 have B0 := B0.keep K1
 have B1 := B1.keep K1
 have k1 := kW.trans K1
 clear hg
 go_wp2_with fail
 go_loopw [9] (fun i wr => ∃ k : Nat, k ≤ 7 ∧ i = .int .i64 k ∧ Hid (∀ j, j < k → c.t j = e.t j) ∧ Kp w1 wr) (fun i _ => 7 - (intOf i).toNat)
 case atStart => exact ⟨0, Nat.zero_le _, rfl, Lib.hid (fun j h => absurd h (by omega)), Kp.refl _⟩
 case round =>
  obtain ⟨k, hk, rfl, hall, hK⟩ := hrel
  by_cases hlt : k < 7
  ·have hgi : (k : Int) < 7 := by omega
   have hg0 : (0 : Int) ≤ (k : Int) := by omega
   obtain ⟨s0, s1, s2⟩ := vnE nm k hlt (BG.keep hK)
   obtain ⟨d, hd⟩ : ∃ d, wr.heap.size = d := ⟨_, rfl⟩
   obtain ⟨Y, hY, KY, DY⟩ : ∃ Y, wr.alloc (.cells #[.string (nm k), .int .i64 (leastS k), .func (.func (spF k)) #[] #[]] 176) = Y ∧ Kp w1 Y ∧ Blk Y d 176 #[.string (nm k), .int .i64 (leastS k), .func (.func (spF k)) #[] #[]] := ⟨_, rfl, hK.alloc _, by rw [← hd]; exact Blk.new _ _ _⟩
   have y2 : Y.cell? ⟨d, 2, none⟩ = some (.func (.func (spF k)) #[] #[]) := DY.cell 2
   obtain ⟨p0, p1, p2, p3, p4, p5, p6, p7, p8⟩ := Blk.p9 ((B0.keep KY))
   obtain ⟨q0, q1, q2, q3, q4, q5, q6, q7, q8⟩ := Blk.p9 ((B1.keep KY))
   have hcall := vln k hlt
   have HC := Lib.hid (fun (c : Cf) (A : Option Addr) (n m : Nat) (w : World) => vnD k hlt c A n m w)
   have HA := Lib.hid hall.out
   clear hall
   obtain ⟨F, hF⟩ : ∃ F, spF k = F := ⟨_, rfl⟩
   rw [hF] at hcall s2 hY y2 HC
   clear hF DY
   have K : Kp Y Y.drew := (Kp.refl Y).drew
   obtain ⟨x, hx⟩ : ∃ x, c.t k = x := ⟨_, rfl⟩
   obtain ⟨z, hz⟩ : ∃ z, e.t k = z := ⟨_, rfl⟩
   have HX := Lib.hid hx
   have HZ := Lib.hid hz
   clear hx hz
   by_cases he : x = z
   ·have e1 : (x != z) = false := by simp [he]
    have HN := Lib.hid (show ∀ j, j < k + 1 → c.t j = e.t j from fun j hj => by
     by_cases h : j < k
     ·exact HA.out j h
     ·obtain rfl : j = k := by omega
      rw [HX.out, HZ.out, he])
    clear he
    go_upto_region 4 with (fail)
    clear s0 s1 s2 hY
    go_region_held3 (fun w' => w'.cell? ⟨d, 2, none⟩ = some (.func (.func F) #[] #[]) ∧ w'.cell? ⟨b, 0, none⟩ = some (.int .i64 c.t0) ∧ w'.cell? ⟨b, 1, none⟩ = some (.int .i64 c.t1) ∧ w'.cell? ⟨b, 2, none⟩ = some (.int .i64 c.t2) ∧ w'.cell? ⟨b, 3, none⟩ = some (.int .i64 c.t3) ∧ w'.cell? ⟨b, 4, none⟩ = some (.int .i64 c.t4) ∧ w'.cell? ⟨b, 5, none⟩ = some (.int .i64 c.t5) ∧ w'.cell? ⟨b, 6, none⟩ = some (.int .i64 c.t6) ∧ w'.cell? ⟨b, 7, none⟩ = some (.int .i64 c.cap) ∧ w'.cell? ⟨b, 8, none⟩ = some (.slice A c.own.length m) ∧ w'.cell? ⟨b + 1, 0, none⟩ = some (.int .i64 e.t0) ∧ w'.cell? ⟨b + 1, 1, none⟩ = some (.int .i64 e.t1) ∧ w'.cell? ⟨b + 1, 2, none⟩ = some (.int .i64 e.t2) ∧ w'.cell? ⟨b + 1, 3, none⟩ = some (.int .i64 e.t3) ∧ w'.cell? ⟨b + 1, 4, none⟩ = some (.int .i64 e.t4) ∧ w'.cell? ⟨b + 1, 5, none⟩ = some (.int .i64 e.t5) ∧ w'.cell? ⟨b + 1, 6, none⟩ = some (.int .i64 e.t6) ∧ w'.cell? ⟨b + 1, 7, none⟩ = some (.int .i64 e.cap) ∧ w'.cell? ⟨b + 1, 8, none⟩ = some (.slice B e.own.length n))
     (first | exact ⟨K.cell y2, K.cell p0, K.cell p1, K.cell p2, K.cell p3, K.cell p4, K.cell p5, K.cell p6, K.cell p7, K.cell p8, K.cell q0, K.cell q1, K.cell q2, K.cell q3, K.cell q4, K.cell q5, K.cell q6, K.cell q7, K.cell q8⟩ | go_keep)
     (first
      | ((with_reducible refine (HC.out c A c.own.length m _).mono ?_); rintro en wa ⟨rfl, hKa⟩; rw [HX.out]; have K := K.trans hKa)
      | ((with_reducible refine (HC.out e B e.own.length n _).mono ?_); rintro en wb ⟨rfl, hKb⟩; rw [HZ.out]; have K := K.trans hKb))
    all_goals
     go_wp2_with fail
     go_roundw
     case rel => exact ⟨k + 1, by omega, by go_num, HN, KY.trans K⟩
     case measure => simp [intOf]; omega
   ·have e1 : (x != z) = true := by simp [he]
    have HN := Lib.hid (show sameC c e = false by
     rw [Bool.eq_false_iff]
     intro h
     rw [vdt] at h
     subst h
     exact he (by rw [← HX.out, ← HZ.out]))
    clear he
    go_upto_region 4 with (fail)
    clear s0 s1 s2 hY
    go_region_held3 (fun w' => w'.cell? ⟨d, 2, none⟩ = some (.func (.func F) #[] #[]) ∧ w'.cell? ⟨b, 0, none⟩ = some (.int .i64 c.t0) ∧ w'.cell? ⟨b, 1, none⟩ = some (.int .i64 c.t1) ∧ w'.cell? ⟨b, 2, none⟩ = some (.int .i64 c.t2) ∧ w'.cell? ⟨b, 3, none⟩ = some (.int .i64 c.t3) ∧ w'.cell? ⟨b, 4, none⟩ = some (.int .i64 c.t4) ∧ w'.cell? ⟨b, 5, none⟩ = some (.int .i64 c.t5) ∧ w'.cell? ⟨b, 6, none⟩ = some (.int .i64 c.t6) ∧ w'.cell? ⟨b, 7, none⟩ = some (.int .i64 c.cap) ∧ w'.cell? ⟨b, 8, none⟩ = some (.slice A c.own.length m) ∧ w'.cell? ⟨b + 1, 0, none⟩ = some (.int .i64 e.t0) ∧ w'.cell? ⟨b + 1, 1, none⟩ = some (.int .i64 e.t1) ∧ w'.cell? ⟨b + 1, 2, none⟩ = some (.int .i64 e.t2) ∧ w'.cell? ⟨b + 1, 3, none⟩ = some (.int .i64 e.t3) ∧ w'.cell? ⟨b + 1, 4, none⟩ = some (.int .i64 e.t4) ∧ w'.cell? ⟨b + 1, 5, none⟩ = some (.int .i64 e.t5) ∧ w'.cell? ⟨b + 1, 6, none⟩ = some (.int .i64 e.t6) ∧ w'.cell? ⟨b + 1, 7, none⟩ = some (.int .i64 e.cap) ∧ w'.cell? ⟨b + 1, 8, none⟩ = some (.slice B e.own.length n))
     (first | exact ⟨K.cell y2, K.cell p0, K.cell p1, K.cell p2, K.cell p3, K.cell p4, K.cell p5, K.cell p6, K.cell p7, K.cell p8, K.cell q0, K.cell q1, K.cell q2, K.cell q3, K.cell q4, K.cell q5, K.cell q6, K.cell q7, K.cell q8⟩ | go_keep)
     (first
      | ((with_reducible refine (HC.out c A c.own.length m _).mono ?_); rintro en wa ⟨rfl, hKa⟩; rw [HX.out]; have K := K.trans hKa)
      | ((with_reducible refine (HC.out e B e.own.length n _).mono ?_); rintro en wb ⟨rfl, hKb⟩; rw [HZ.out]; have K := K.trans hKb))
    all_goals
     go_wp2_with fail
     go_ret
     exact ⟨by rw [HN.out] <;> rfl, (k1.trans KY).trans K⟩
  ·obtain rfl : k = 7 := by omega
   have hw := k1.trans hK
   obtain ⟨-, -, -, -, -, -, -, p7, p8⟩ := Blk.p9 (B0.keep hK)
   obtain ⟨-, -, -, -, -, -, -, q7, q8⟩ := Blk.p9 (B1.keep hK)
   have HA := Lib.hid (show sevenB c e = true from vdR.2 hall.out)
   clear hall
   obtain ⟨cc, hcc⟩ : ∃ cc, c.cap = cc := ⟨_, rfl⟩
   obtain ⟨ce, hce⟩ : ∃ ce, e.cap = ce := ⟨_, rfl⟩
   rw [hcc] at p7
   rw [hce] at q7
   have H1 := Lib.hid hcc
   have H2 := Lib.hid hce
   clear hcc hce
   by_cases he : cc = ce
   ·have e1 : (cc == ce) = true := by simp [he]
    have HN := Lib.hid (show sameC c e = decide (c.own = e.own) by unfold sameC; rw [HA.out, H1.out, H2.out, decide_eq_true he]; rfl)
    clear he
    go_wp2_with (first | (go_at_call 116; refine (vne A B m n c.own e.own _ (HS.out.rd.keep hw) (HQ.out.rd.keep hw) hn hn2).mono ?_; rintro en w2 ⟨rfl, K2⟩))
    go_ret
    exact ⟨by rw [HN.out] <;> rfl, hw.trans K2⟩
   ·have e1 : (cc == ce) = false := by simp [he]
    have HN := Lib.hid (show sameC c e = false by unfold sameC; rw [HA.out, H1.out, H2.out, decide_eq_false he]; rfl)
    clear he
    go_wp2_with fail
    go_ret
    exact ⟨by rw [HN.out] <;> rfl, hw⟩
instance : DecidableEq Rt := fun a b => decidable_of_iff (a.p = b.p ∧ a.s = b.s ∧ a.m = b.m ∧ a.l = b.l ∧ a.f = b.f ∧ a.x = b.x ∧ a.d = b.d ∧ a.c = b.c) (by cases a; cases b; simp only [Rt.mk.injEq])
theorem vlL (r q : Rt) : decide (r = q) = (((r.p.a : Int) == q.p.a && r.p.l == q.p.l) && (r.s == q.s && (r.m == q.m && (r.l == q.l && (r.f == q.f && ((r.x : Int) == q.x && (r.d == q.d && r.c == q.c))))))) := by
 rw [vgw, Bool.eq_iff_iff]
 simp only [Bool.and_eq_true, beq_iff_eq, decide_eq_true_eq]
 constructor
 ·rintro rfl
  exact ⟨rfl, rfl, rfl, rfl, rfl, rfl, rfl, rfl⟩
 ·rintro ⟨h0, h1, h2, h3, h4, h5, h6, h7⟩
  cases r
  cases q
  simp only at h0 h1 h2 h3 h4 h5 h6 h7
  subst h0 h1 h2 h3 h4 h6 h7
  congr
  omega
set_option maxRecDepth 100000 in
theorem vlM (r q : Rt) (w : World) : (binOp .neq 48 (.agg #[.int .u32 r.p.a, .int .i64 r.p.l, .int .i64 r.s, .int .i64 r.m, .int .i64 r.l, .int .i64 r.f, .int .u32 r.x, .int .i64 r.d, .bool r.c]) (.agg #[.int .u32 q.p.a, .int .i64 q.p.l, .int .i64 q.s, .int .i64 q.m, .int .i64 q.l, .int .i64 q.f, .int .u32 q.x, .int .i64 q.d, .bool q.c])).run Tryz.prog w = .ok (.bool (!decide (r = q))) w := by
 rw [run_neq_struct, run_equalIn_agg w 9999 _ _ _ Tryz.underlying48 (by kernel_rfl), vlL]
 simp [Op.eqFields, part, go_sem, Tryz.underlying3, Tryz.underlying2, Tryz.underlying27, Tryz.underlying4, Tryz.underlying46]
 repeat (split; rotate_left; · simp [*])
 simp [*]
set_option maxRecDepth 100000 in
theorem vlo (r q : Rt) (w : World) : (binOp .neq 87 (.agg #[.int .u32 r.p.a, .int .i64 r.p.l, .int .i64 r.s, .int .i64 r.m, .int .i64 r.l, .int .i64 r.f, .int .u32 r.x, .int .i64 r.d, .bool r.c]) (.agg #[.int .u32 q.p.a, .int .i64 q.p.l, .int .i64 q.s, .int .i64 q.m, .int .i64 q.l, .int .i64 q.f, .int .u32 q.x, .int .i64 q.d, .bool q.c])).run Tryz.prog w = .ok (.bool (!decide (r = q))) w := by
 rw [run_neq_struct, run_equalIn_agg w 9999 _ _ _ Tryz.underlying87 (by kernel_rfl), vlL]
 simp [Op.eqFields, part, go_sem, Tryz.underlying3, Tryz.underlying2, Tryz.underlying27, Tryz.underlying4, Tryz.underlying46, Tryz.underlying48]
 repeat (split; rotate_left; · simp [*])
 simp [*]
theorem ver {rs ss : List Rt} {k : Nat} (h1 : k < rs.length) (h2 : k < ss.length) (h : rs.take k = ss.take k) (e : rs[k] = ss[k]) : rs.take (k + 1) = ss.take (k + 1) := by
 rw [List.take_succ_eq_append_getElem h1, List.take_succ_eq_append_getElem h2, h, e]
set_option maxRecDepth 100000 in
theorem vaK (rs ss : List Rt) (A1 A2 : Option Addr) (c1 c2 : Nat) (w : World) (h1 : Rd w 9 Rt.enc A1 rs) (h2 : Rd w 9 Rt.enc A2 ss) (hl : rs.length ≤ 1000000) (hl2 : ss.length ≤ 1000000) :
  Calls Tryz.prog 64 #[.slice A1 rs.length c1, .slice A2 ss.length c2] w fun e w' => e = .returned (.bool (decide (rs = ss))) ∧ Kp w w' := by
 have H1 := Lib.hid h1
 have H2 := Lib.hid h2
 clear h1 h2
 by_cases hle : rs.length = ss.length
 ·have hln : ((rs.length : Int) != (ss.length : Int)) = false := by simp [hle]
  have HLE := Lib.hid hle
  clear hle
  go_enter Tryz.func64, Tryz.ntmps64
  go_wp2_with fail
  go_loopw [5] (fun k wr => ∃ i : Nat, i ≤ rs.length ∧ k = .int .i64 i ∧ Hid (Kp w wr ∧ rs.take i = ss.take i)) (fun k _ => rs.length - (intOf k).toNat)
  case atStart => exact ⟨0, by omega, rfl, Lib.hid ⟨Kp.refl _, rfl⟩⟩
  case round =>
   obtain ⟨i, hi, rfl, K⟩ := hrel
   by_cases hlt : i < rs.length
   ·have hlt2 : i < ss.length := by have := HLE.out; omega
    have hgi : (i : Int) < (rs.length : Int) := by omega
    have hgj : (i : Int) < (ss.length : Int) := by omega
    have hg0 : (0 : Int) ≤ (i : Int) := by omega
    obtain ⟨b, off, hA1, x0, x1, x2, x3, x4, x5, x6, x7, x8⟩ := vaU (H1.out.keep K.out.1) hlt
    obtain ⟨b', off', hA2, y0, y1, y2, y3, y4, y5, y6, y7, y8⟩ := vaU (H2.out.keep K.out.1) hlt2
    subst hA1
    subst hA2
    obtain ⟨r, hr⟩ : ∃ r, rs[i] = r := ⟨_, rfl⟩
    obtain ⟨q, hq⟩ : ∃ q, ss[i] = q := ⟨_, rfl⟩
    rw [hr] at x0 x1 x2 x3 x4 x5 x6 x7 x8
    rw [hq] at y0 y1 y2 y3 y4 y5 y6 y7 y8
    have HRR := Lib.hid hr
    have HQQ := Lib.hid hq
    have hne := vlM r q
    clear hr hq
    by_cases he : r = q
    ·rw [decide_eq_true he] at hne
     have HN := Lib.hid (ver hlt hlt2 K.out.2 (by rw [HRR.out, HQQ.out, he]))
     clear he
     go_wp2_with fail
     go_quiet (fail)
     have KN : Hid (Kp w (wr.drewN nq)) := Lib.hid (K.out.1.drewN nq)
     clear x0 x1 x2 x3 x4 x5 x6 x7 x8 y0 y1 y2 y3 y4 y5 y6 y7 y8 hne
     go_wp2_with fail
     go_roundw
     case rel => exact ⟨i + 1, by omega, by go_num, Lib.hid ⟨KN.out, HN.out⟩⟩
     case measure => simp [intOf]; omega
    ·rw [decide_eq_false he] at hne
     have HN := Lib.hid (show decide (rs = ss) = false from decide_eq_false (fun e => he (by rw [← HRR.out, ← HQQ.out]; subst e; rfl)))
     clear he
     go_wp2_with fail
     go_quiet (fail)
     have KN : Hid (Kp w (wr.drewN nq)) := Lib.hid (K.out.1.drewN nq)
     clear x0 x1 x2 x3 x4 x5 x6 x7 x8 y0 y1 y2 y3 y4 y5 y6 y7 y8 hne
     go_wp2_with fail
     go_ret
     exact ⟨by rw [HN.out] <;> rfl, KN.out⟩
   ·obtain rfl : i = rs.length := by omega
    have HN := Lib.hid (show decide (rs = ss) = true from decide_eq_true (by
     have h1 := K.out.2
     rwa [List.take_length, HLE.out, List.take_length] at h1))
    go_wp2_with fail
    go_ret
    exact ⟨by rw [HN.out] <;> rfl, K.out.1⟩
 ·have hln : ((rs.length : Int) != (ss.length : Int)) = true := by simp; omega
  have HN := Lib.hid (show decide (rs = ss) = false from decide_eq_false (fun e => hle (by rw [e])))
  clear hle
  go_enter Tryz.func64, Tryz.ntmps64
  go_wp2_with fail
  go_ret
  exact ⟨by rw [HN.out] <;> rfl, Kp.refl _⟩
end

section
open Go.RowKit Go.Maps
theorem vlp {L : List Rt} (u : UpR L) : L.Nodup := (List.pairwise_map.1 u.nodup).imp (fun {x y} h e => h (by rw [e]))
theorem vnF {L M : List Rt} (u : UpR L) (v : UpR M) (hl : L.length = M.length) (h : ∀ r ∈ L, r ∈ M) : L = M := by
 refine u.eq v (fun x => ⟨h x, fun hx => ?_⟩)
 refine Classical.byContradiction fun hn => ?_
 have h1 := vcq (s := x :: L) (L := M) (List.nodup_cons.2 ⟨hn, vlp u⟩) (fun r hr => by
  rcases List.mem_cons.1 hr with rfl | hr
  ·exact hx
  ·exact h r hr)
 rw [List.length_cons] at h1
 omega
theorem vnf {w : World} {m : Nat} {L : List Rt} (h : MapR w m L) (u : UpR L) (hw : ∀ r ∈ L, wfP r.p) {p : PI} (hp : wfP p) (y : Rt) (is : Bool) (hy : (getR p L).getD zeroR = y) (hi : (getR p L).isSome = is) : (Instr.lookup 105 (.map (some m)) (pfV p) true).run Tryz.prog w = .ok (.tuple #[.agg #[.int .u32 y.p.a, .int .i64 y.p.l, .int .i64 y.s, .int .i64 y.m, .int .i64 y.l, .int .i64 y.f, .int .u32 y.x, .int .i64 y.d, .bool y.c], .bool is]) w := by
 have := vbc h u hw hp w rfl
 rw [hy, hi] at this
 exact this
set_option maxRecDepth 100000 in
theorem vcF (L M : List Rt) (m1 m2 : Nat) (w : World) (h1 : MapR w m1 L) (h2 : MapR w m2 M) (u : UpR L) (v : UpR M) (hw : ∀ r ∈ L, wfP r.p) (hv : ∀ r ∈ M, wfP r.p) (hn : L.length ≤ 900000) (hn2 : M.length ≤ 900000) :
  Calls Tryz.prog 77 #[.map (some m1), .map (some m2)] w fun e w' => e = .returned (.bool (decide (L = M))) ∧ Kp w w' := by
 have l1 := fun ty => vdm h1 ty w rfl
 have l2 := fun ty => vdm h2 ty w rfl
 by_cases hle : L.length = M.length
 ·have hln : ((L.length : Int) != (M.length : Int)) = false := by simp [hle]
  have HLE := Lib.hid hle
  have hlt2 := h2.lt
  have hlt1 := h1.lt
  obtain ⟨es, hown, hes⟩ := h1
  have H2 := Lib.hid h2
  have HU := Lib.hid u
  have HV := Lib.hid v
  have HW := Lib.hid hw
  have HWV := Lib.hid hv
  have HE := Lib.hid hes
  clear hle h2 u v hw hv hes
  go_enter Tryz.func77, Tryz.ntmps77
  go_wp2_with (at_range; refine wpList_range_own _ rfl _ 105 rfl 29 87 keyedPf Tryz.underlying105 rdAll m1 L.length _ rfl hown ?_; intro w0 hrg0 hg0 hs0)
  have hk0 : Kp w w0 := (Kp.refl w).grown hg0 (by simp)
  have I0 : Hid (RngV w0 m1 w.heap.size L [] _ ∧ MapR w0 m2 M ∧ (∀ r ∈ ([] : List Rt), r ∈ M) ∧ Kp w w0 ∧ w.heap.size < w0.heap.size) := Lib.hid ⟨RngV.start HE.out HW.out hrg0, H2.out.keep hk0, by simp, hk0, by omega⟩
  clear hrg0 hg0 hs0 hk0 hown l1 l2
  go_frame
  go_loopw [16] (fun _ wr => ∃ s cnt, Hid (RngV wr m1 w.heap.size L s cnt ∧ MapR wr m2 M ∧ (∀ r ∈ s, r ∈ M) ∧ Kp w wr ∧ w.heap.size < wr.heap.size)) (fun _ wr => wr.rangeLeft m1 w.heap.size)
  case atStart => exact ⟨[], _, I0⟩
  case round =>
   obtain ⟨s, cnt, I⟩ := hrel
   obtain ⟨es', left, hes', hr, hl⟩ := I.out.1
   have HL := Lib.hid hl
   have HE1 := Lib.hid hes'
   clear hl hes'
   go_wp2_with (at_next; refine wpList_next_ranges _ rfl _ rfl 29 keyedPf rdAll id id (fun key _ _ => ⟨key, rfl⟩) (fun v _ _ => ⟨v, rfl⟩) m1 w.heap.size L.length _ _ _ rfl hr ?_ ?_)
   ·intro _ hl0
    have HD := RngV.done (w := wr) (mp := m1) (r := w.heap.size) HL.out hl0
    have HN := Lib.hid (show decide (L = M) = true from decide_eq_true (vnF HU.out HV.out HLE.out (fun r hr => I.out.2.2.1 r (HD r hr))))
    clear hl0 hr HD
    go_wp2_with fail
    go_ret
    exact ⟨by rw [HN.out] <;> rfl, I.out.2.2.2.1⟩
   ·intro x c kl yd yp w1 cnt1 hkey hlx hv hat hrg1 hlt hg1 hs1 hen
    obtain ⟨r, hrL, hrs, hc, hkl, hR1⟩ := RngV.step HU.out HW.out HE1.out hr HL.out hlx hv hat hrg1
    have hc' : c = roV r := hc
    subst hc'
    subst hkl
    have hx : x = pfV r.p := keyedPf.inj hkey (vbb (HW.out r hrL))
    subst hx
    have hle := hr.left_eq
    have HLT := Lib.hid (show cnt1 < wr.rangeLeft m1 w.heap.size by rw [hle]; exact hlt)
    have k1 : Kp w w1 := I.out.2.2.2.1.grown hg1 (fun k hk => by injection hk with hk; omega)
    have M1 : MapR w1 m2 M := I.out.2.1.lie (hg1.block m2 (Nat.lt_of_lt_of_le hlt2 I.out.2.2.2.1.size) (fun e => by injection e with e; omega))
    have hws : w.heap.size < w1.heap.size := by have := I.out.2.2.2.2; omega
    obtain ⟨b, hb⟩ : ∃ b, w1.heap.size = b := ⟨_, rfl⟩
    obtain ⟨V, hV, kV, bV, bV2⟩ := Blk.al2 hb #[.int .u32 (r.p.a : Int), .int .i64 r.p.l] 29 (roC r) 87
    have hVs : V.heap.size = b + 1 + 1 := by rw [← hV, ← hb]; simp
    have p0 := Blk.f bV rfl
    obtain ⟨y, hy⟩ : ∃ y, (getR r.p M).getD zeroR = y := ⟨_, rfl⟩
    obtain ⟨is, hi⟩ : ∃ is, (getR r.p M).isSome = is := ⟨_, rfl⟩
    have hlk := vnf (M1.keep kV) HV.out HWV.out (HW.out r hrL) y is hy hi
    obtain ⟨U, hU, kU, bU⟩ : ∃ U, V.alloc (.cells (roC y) 87) = U ∧ Kp V U ∧ Blk U (b + 1 + 1) 87 (roC y) := ⟨_, rfl, (Kp.refl _).alloc _, by rw [← hVs]; exact Blk.new _ _ _⟩
    have r0 := Blk.f (bV2.keep kU) rfl
    have y0 := Blk.f bU rfl
    have hne := vlo r y
    have hUs : U.heap.size = b + 1 + 1 + 1 := by rw [← hU]; simp [hVs]
    unfold roC at hV hU
    have kwU := (k1.trans kV).trans kU
    have R3 := Lib.hid (show RngV U m1 w.heap.size L (s ++ [r]) cnt1 from hR1.lie ((kV.trans kU).heap (Nat.lt_of_lt_of_le hlt1 k1.size)) ((kV.trans kU).heap hws))
    have M3 := Lib.hid (M1.keep (kV.trans kU))
    have HKW := Lib.hid kwU
    have HRL := Lib.hid hrL
    have HY := Lib.hid hy
    have HI := Lib.hid hi
    have hbV : V.heap.size = b + 1 + 1 := hVs
    clear hkey hlx hv hat hrg1 hlt hg1 hc hle k1 M1 hrL hrs hR1 hr hs1 bV bV2 kV kU kwU bU hy hi hUs
    cases is with
    | false =>
     have HN := Lib.hid (show decide (L = M) = false from decide_eq_false (fun e => by
      have := HI.out
      rw [← e, vay HU.out HRL.out] at this
      cases this))
     clear hne
     go_wp2_with fail
     go_ret
     exact ⟨by rw [HN.out] <;> rfl, HKW.out⟩
    | true =>
     by_cases he : r = y
     ·rw [decide_eq_true he] at hne
      have HN := Lib.hid (show r ∈ M by
       have h1 := HI.out
       have h2 := HY.out
       cases e : getR r.p M with
       | none => rw [e] at h1; cases h1
       | some z =>
        rw [e] at h2
        have : z = y := h2
        rw [he, ← this]
        exact (vas e).1)
      clear he
      go_wp2_with fail
      go_roundw
      case rel => exact ⟨s ++ [r], cnt1, Lib.hid ⟨R3.out, M3.out, fun z hz => by
       rcases List.mem_append.1 hz with h | h
       ·exact I.out.2.2.1 z h
       ·simp only [List.mem_cons, List.not_mem_nil, or_false] at h
        subst h
        exact HN.out, HKW.out, by have := HKW.out.size; obtain ⟨_, _, _, h, _⟩ := R3.out; exact h.lt⟩⟩
      case measure =>
       obtain ⟨_, _, _, h, _⟩ := R3.out
       rw [h.left_eq]
       exact HLT.out
     ·rw [decide_eq_false he] at hne
      have HN := Lib.hid (show decide (L = M) = false from decide_eq_false (fun e => he (by
       have := HY.out
       rw [← e, vay HU.out HRL.out] at this
       exact this)))
      clear he
      go_wp2_with fail
      go_ret
      exact ⟨by rw [HN.out] <;> rfl, HKW.out⟩
 ·have hln : ((L.length : Int) != (M.length : Int)) = true := by simp; omega
  have HN := Lib.hid (show decide (L = M) = false from decide_eq_false (fun e => hle (by rw [e])))
  clear hle h1 h2 u v hw hv
  go_enter Tryz.func77, Tryz.ntmps77
  go_wp2_with fail
  go_ret
  exact ⟨by rw [HN.out] <;> rfl, Kp.refl _⟩
end

end Go.Proofs.YtffckpkikdlbpaaGreatDoor
