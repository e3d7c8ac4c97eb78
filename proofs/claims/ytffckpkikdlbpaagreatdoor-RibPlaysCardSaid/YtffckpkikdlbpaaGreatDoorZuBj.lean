/- Lemmas and contracts for the theorem of this claim: SoK, SoM, SoN, LwA, TwA, LwB. -/
import Derived.Test.YtffckpkikdlbpaaGreatDoorZuBi
set_option linter.all false
set_option maxHeartbeats 16000000
namespace Go.Proofs.YtffckpkikdlbpaaGreatDoor
section
open Go.RowKit Go.Maps
set_option maxRecDepth 100000 in
theorem vfL (B t : Nat) (F : List Nat) (T : Tb) (w : World) (h : TabM w B t F T) (hn : T.c.own.length ≤ 1000000) : Calls Tryz.prog 36 #[.pointer (some ⟨t, 0, none⟩)] w (CCopyP T.c w) := by
 obtain ⟨q, mp, m, A, QF, l, _, X⟩ := h
 obtain ⟨b, hb⟩ : ∃ b, w.heap.size = b := ⟨_, rfl⟩
 obtain ⟨W, hW, kW, B0⟩ := Blk.al1 hb #[.int .i64 0, .int .i64 0, .int .i64 0, .int .i64 0, .int .i64 0, .int .i64 0, .int .i64 0, .int .i64 0, .slice none 0 0] 24
 have hbW := B0.lt
 have XW := X.keep kW
 have hm : W.cell? ⟨t, 10, none⟩ = some (.map (some mp)) := XW.bk.cell 10
 obtain ⟨-, g0, g1, g2, g3, g4, g5, g6, g7, g8⟩ := Blk.v10 XW.bk _ (.int .i64 T.c.t0) (.int .i64 T.c.t1) (.int .i64 T.c.t2) (.int .i64 T.c.t3) (.int .i64 T.c.t4) (.int .i64 T.c.t5) (.int .i64 T.c.t6) (.int .i64 T.c.cap) (.slice A T.c.own.length m) rfl
 have HSL := Lib.hid (SlPI.of_own XW.ow)
 clear X XW
 go_enter Tryz.func36, Tryz.ntmps36
 go_wp2_with (first | (go_at_call 56; refine (vau t mp _ hm).mono ?_; rintro e w' ⟨rfl, hw'⟩; rw [hw']; clear hw' w'))
 refine (vde T.c A m _ HSL.out hn).mono ?_
 rintro e w1 ⟨A', m', rfl, hO, K1⟩
 have B1 := B0.keep K1
 have k1 := kW.trans K1
 have HO2 := Lib.hid (hO.mono (base' := b + 1) hbW)
 clear hO
 clear g0 g1 g2 g3 g4 g5 g6 g7 g8 hW hm
 have q0 : w1.cell? ⟨b, 0, none⟩ = some (.int .i64 0) := B1.cell 0
 have z0 := Blk.frozen B1
 have q1 : w1.cell? ⟨b, 1, none⟩ = some (.int .i64 0) := B1.cell 1
 have z1 := B1.frozen 1
 have q2 : w1.cell? ⟨b, 2, none⟩ = some (.int .i64 0) := B1.cell 2
 have z2 := B1.frozen 2
 have q3 : w1.cell? ⟨b, 3, none⟩ = some (.int .i64 0) := B1.cell 3
 have z3 := B1.frozen 3
 have q4 : w1.cell? ⟨b, 4, none⟩ = some (.int .i64 0) := B1.cell 4
 have z4 := B1.frozen 4
 have q5 : w1.cell? ⟨b, 5, none⟩ = some (.int .i64 0) := B1.cell 5
 have z5 := B1.frozen 5
 have q6 : w1.cell? ⟨b, 6, none⟩ = some (.int .i64 0) := B1.cell 6
 have z6 := B1.frozen 6
 have q7 : w1.cell? ⟨b, 7, none⟩ = some (.int .i64 0) := B1.cell 7
 have z7 := B1.frozen 7
 have q8 := Blk.f B1 rfl
 have z8 := B1.frozen 8
 go_wp2_with fail
 obtain ⟨W3, hW3, B6, k3, hO3⟩ : ∃ W3, cfSet w1 b T.c A' T.c.own.length m' = W3 ∧ Blk W3 b 24 (cfC T.c A' T.c.own.length m') ∧ Kp w W3 ∧ Own W3 w.heap.size 29 2 PI.enc (.slice A' T.c.own.length m') T.c.own :=
  ⟨_, rfl, B1.putCf T.c A' T.c.own.length m', k1.putCf (by omega) T.c A' T.c.own.length m', (HO2.out.putCf (by omega) T.c A' T.c.own.length m').mono (by omega)⟩
 unfold cfSet at hW3
 rw [hW3]
 clear hW3 q0 q1 q2 q3 q4 q5 q6 q7 q8 z0 z1 z2 z3 z4 z5 z6 z7 z8
 obtain ⟨y0, y1, y2, y3, y4, y5, y6, y7, y8⟩ := vcP B6
 exact ⟨rfl, cfV T.c A' T.c.own.length m', by simp [results, Tryz.results36, go_sem, y0, y1, y2, y3, y4, y5, y6, y7, y8], A', m', rfl, hO3, k3⟩
def TCopyP (T : Tb) (w : World) (e : Ending) (w' : World) : Prop := ∃ t F, e = .returned (.pointer (some ⟨t, 0, none⟩)) ∧ TabM w' w.heap.size t F T ∧ Kp w w'
theorem TCopyP.mk {T : Tb} {w w4 : World} {q mp m : Nat} {A : Option Addr} {QF : List Nat} {l : List Tw} (S : QuS w4 w.heap.size q QF l) (O : Own w4 w.heap.size 29 2 PI.enc (.slice A T.c.own.length m) T.c.own) (M : MapR w4 mp T.l) (hm : w.heap.size ≤ mp) (pm : l.Perm (armL T.l))
  (hmq : mp ∉ QF) (han : ∀ a, A = some a → a.block ∉ QF ∧ a.block ≠ mp) (K : Kp w w4) (u : UpR T.l) (wf : ∀ r ∈ T.l, wfP r.p) (n : T.l.length ≤ 900000) : TCopyP T w (.returned (.pointer (some ⟨w4.heap.size, 0, none⟩))) (w4.alloc (.cells (tbC q T A m mp) 107)) := by
 have al : Kp w4 (w4.alloc (.cells (tbC q T A m mp) 107)) := (Kp.refl _).alloc _
 exact ⟨w4.heap.size, _, rfl, ⟨q, mp, m, A, QF, l, rfl, Blk.new _ _ _, S.keep al, pm, M.keep al, O.keep al, fun e => by have := (S.lo _ e).2; omega, hmq, fun e => by have := M.lt; omega, fun a e => ⟨(han a e).1, fun z => by have := (vby O a e).2; omega, (han a e).2⟩, K.size, hm, u, wf, n⟩, K.trans al⟩
set_option maxRecDepth 100000 in
theorem vjh (B t : Nat) (F : List Nat) (T : Tb) (w : World) (h : TabM w B t F T) (hn : T.c.own.length ≤ 1000000) : Calls Tryz.prog 19 #[.pointer (some ⟨t, 0, none⟩)] w (TCopyP T w) := by
 obtain ⟨q, mp, m, A, QF, l, _, X⟩ := h
 obtain ⟨W, hWw⟩ : ∃ W, W = w := ⟨_, rfl⟩
 have XW : TabX W B t q mp m A QF l T := by rw [hWw]; exact X
 have gq : W.cell? ⟨t, 0, none⟩ = some (.pointer (some ⟨q, 0, none⟩)) := XW.bk.cell 0
 have g0 : W.cell? ⟨t, 1, none⟩ = some (.int .i64 T.c.t0) := XW.bk.cell 1
 have g1 : W.cell? ⟨t, 2, none⟩ = some (.int .i64 T.c.t1) := XW.bk.cell 2
 have g2 : W.cell? ⟨t, 3, none⟩ = some (.int .i64 T.c.t2) := XW.bk.cell 3
 have g3 : W.cell? ⟨t, 4, none⟩ = some (.int .i64 T.c.t3) := XW.bk.cell 4
 have g4 : W.cell? ⟨t, 5, none⟩ = some (.int .i64 T.c.t4) := XW.bk.cell 5
 have g5 : W.cell? ⟨t, 6, none⟩ = some (.int .i64 T.c.t5) := XW.bk.cell 6
 have g6 : W.cell? ⟨t, 7, none⟩ = some (.int .i64 T.c.t6) := XW.bk.cell 7
 have g7 : W.cell? ⟨t, 8, none⟩ = some (.int .i64 T.c.cap) := XW.bk.cell 8
 have g8 : W.cell? ⟨t, 9, none⟩ = some (.slice A T.c.own.length m) := XW.bk.cell 9
 have hm : W.cell? ⟨t, 10, none⟩ = some (.map (some mp)) := XW.bk.cell 10
 have gn : W.cell? ⟨t, 11, none⟩ = some (.int .i64 T.now) := XW.bk.cell 11
 have gf : W.cell? ⟨t, 12, none⟩ = some (.int .i64 T.rf) := XW.bk.cell 12
 subst hWw
 have hl := X.len
 have HX := Lib.hid X
 have HSL := Lib.hid (SlPI.of_own X.ow)
 clear X XW
 go_enter Tryz.func19, Tryz.ntmps19
 go_upto_region 3 with (first | (go_at_call 56; refine (vau t mp _ hm).mono ?_; rintro e w' ⟨rfl, hw'⟩; rw [hw']; clear hw' w'))
 have K : Kp W W.drew := (Kp.refl W).drew
 go_region_held3 (fun w' => w'.cell? ⟨t, 0, none⟩ = some (.pointer (some ⟨q, 0, none⟩)) ∧ w'.cell? ⟨t, 1, none⟩ = some (.int .i64 T.c.t0) ∧ w'.cell? ⟨t, 2, none⟩ = some (.int .i64 T.c.t1) ∧ w'.cell? ⟨t, 3, none⟩ = some (.int .i64 T.c.t2) ∧ w'.cell? ⟨t, 4, none⟩ = some (.int .i64 T.c.t3) ∧ w'.cell? ⟨t, 5, none⟩ = some (.int .i64 T.c.t4) ∧ w'.cell? ⟨t, 6, none⟩ = some (.int .i64 T.c.t5) ∧ w'.cell? ⟨t, 7, none⟩ = some (.int .i64 T.c.t6) ∧ w'.cell? ⟨t, 8, none⟩ = some (.int .i64 T.c.cap) ∧ w'.cell? ⟨t, 9, none⟩ = some (.slice A T.c.own.length m) ∧ w'.cell? ⟨t, 10, none⟩ = some (.map (some mp)) ∧ w'.cell? ⟨t, 11, none⟩ = some (.int .i64 T.now) ∧ w'.cell? ⟨t, 12, none⟩ = some (.int .i64 T.rf))
  (first | exact ⟨K.cell gq, K.cell g0, K.cell g1, K.cell g2, K.cell g3, K.cell g4, K.cell g5, K.cell g6, K.cell g7, K.cell g8, K.cell hm, K.cell gn, K.cell gf⟩ | go_keep)
  (first
   | (go_at_call 57; refine (vmT B q QF l _ (HX.out.qs.keep K) hl).mono ?_; rintro e wq ⟨q2, QF2, rfl, hq, hKq⟩; have hlq := hq.lo; have hq := hq.mono (Kp.size K); (try (have ho := ho.keep hKq)); (try (have hr := hr.keep hKq)); have hzq := hKq.size; have K := K.trans hKq)
   | (go_at_call 53; refine (vde T.c A m _ (HSL.out.keep K) hn).mono ?_; rintro e wo ⟨A2, m2, rfl, ho, hKo⟩; have hlo := vby ho; have ho := ho.mono (Kp.size K); (try (have hq := hq.keep hKo)); (try (have hr := hr.keep hKo)); have hzo := hKo.size; have K := K.trans hKo)
   | (go_at_call 58; refine (vhw mp T.l _ (HX.out.mr.keep K)).mono ?_; rintro e wm ⟨mp2, rfl, hr0, hr, hKm⟩; have hr1 := hr.lt; (try (have hq := hq.keep hKm)); (try (have ho := ho.keep hKm)); have hzm := hKm.size; have K := K.trans hKm))
 all_goals
  have hdr : W.drew.heap.size = W.heap.size := rfl
  have HF := Lib.hid (TCopyP.mk (T := T) (w := W) hq ho hr (by omega) HX.out.pm (fun e => by have := hlq _ e; omega) (fun a e => ⟨fun z => by have := hlq _ z; have := hlo a e; omega, by have := hlo a e; omega⟩) K HX.out.u HX.out.wf HX.out.n)
  clear hlq hlo hzq hzo hzm hr0 hr1 hq ho hr hdr
  unfold tbC at HF
  go_wp2_with fail
  go_ret
  exact HF.out
end

section
open Go.RowKit
set_option maxRecDepth 100000 in
theorem vlc (w : World) (a l b k : Int) : (binOp .neq 29 (.agg #[.int .u32 a, .int .i64 l]) (.agg #[.int .u32 b, .int .i64 k])).run Tryz.prog w = .ok (.bool (!(a == b && l == k))) w := by
 rw [run_neq_struct, run_equalIn_agg w 9999 _ _ _ Tryz.underlying29 (by kernel_rfl)]
 simp [Op.eqFields, part, go_sem, Tryz.underlying3, Tryz.underlying27]
 by_cases h1 : a = b <;> by_cases h2 : l = k <;> simp [h1, h2]
theorem vji (p q : PI) : ((p.a : Int) == (q.a : Int) && p.l == q.l) = decide (p = q) := by
 rw [Bool.eq_iff_iff]
 simp only [Bool.and_eq_true, beq_iff_eq, decide_eq_true_eq]
 exact ⟨fun h => PI.ext' (by omega) h.2, fun h => by subst h; exact ⟨rfl, rfl⟩⟩
theorem seven {k : Nat} (h : k < 7) : k = 0 ∨ k = 1 ∨ k = 2 ∨ k = 3 ∨ k = 4 ∨ k = 5 ∨ k = 6 := by omega
instance : DecidableEq Rt := fun a b => decidable_of_iff (a.p = b.p ∧ a.s = b.s ∧ a.m = b.m ∧ a.l = b.l ∧ a.f = b.f ∧ a.x = b.x ∧ a.d = b.d ∧ a.c = b.c) (by cases a; cases b; simp only [Rt.mk.injEq])
theorem vno (r q : Rt) : decide (r = q) = (((r.p.a : Int) == q.p.a && r.p.l == q.p.l) && (r.s == q.s && (r.m == q.m && (r.l == q.l && (r.f == q.f && ((r.x : Int) == q.x && (r.d == q.d && r.c == q.c))))))) := by
 rw [vji, Bool.eq_iff_iff]
 simp only [Bool.and_eq_true, beq_iff_eq, decide_eq_true_eq]
 constructor
 ·rintro rfl
  exact ⟨rfl, rfl, rfl, rfl, rfl, rfl, rfl, rfl⟩
 ·rintro ⟨h0, h1, h2, h3, h4, h5, h6, h7⟩
  cases r
  cases q
  simp only at h0 h1 h2 h3 h4 h5 h6 h7
  subst h0 h1 h2 h3 h4 h6 h7
  congr
  omega
set_option maxRecDepth 100000 in
theorem vgv (r q : Rt) (w : World) : (binOp .neq 48 (.agg #[.int .u32 r.p.a, .int .i64 r.p.l, .int .i64 r.s, .int .i64 r.m, .int .i64 r.l, .int .i64 r.f, .int .u32 r.x, .int .i64 r.d, .bool r.c]) (.agg #[.int .u32 q.p.a, .int .i64 q.p.l, .int .i64 q.s, .int .i64 q.m, .int .i64 q.l, .int .i64 q.f, .int .u32 q.x, .int .i64 q.d, .bool q.c])).run Tryz.prog w = .ok (.bool (!decide (r = q))) w := by
 rw [run_neq_struct, run_equalIn_agg w 9999 _ _ _ Tryz.underlying48 (by kernel_rfl), vno]
 simp [Op.eqFields, part, go_sem, Tryz.underlying3, Tryz.underlying2, Tryz.underlying27, Tryz.underlying4, Tryz.underlying46]
 repeat (split; rotate_left; · simp [*])
 simp [*]
theorem ven {rs ss : List Rt} {k : Nat} (h1 : k < rs.length) (h2 : k < ss.length) (h : rs.take k = ss.take k) (e : rs[k] = ss[k]) : rs.take (k + 1) = ss.take (k + 1) := by
 rw [List.take_succ_eq_append_getElem h1, List.take_succ_eq_append_getElem h2, h, e]
set_option maxRecDepth 100000 in
theorem vdu (rs ss : List Rt) (A1 A2 : Option Addr) (c1 c2 : Nat) (w : World) (h1 : Rd w 9 Rt.enc A1 rs) (h2 : Rd w 9 Rt.enc A2 ss) (hl : rs.length ≤ 1000000) (hl2 : ss.length ≤ 1000000) :
  Calls Tryz.prog 64 #[.slice A1 rs.length c1, .slice A2 ss.length c2] w fun e w' => e = .returned (.bool (decide (rs = ss))) ∧ Kp w w' := by
 have H1 := Lib.hid h1
 have H2 := Lib.hid h2
 clear h1 h2
 by_cases hle : rs.length = ss.length
 ·have hln : ((rs.length : Int) != (ss.length : Int)) = false := by simp [hle]
  have HLE := Lib.hid hle
  clear hle
  go_enter Tryz.func64, Tryz.ntmps64
  go_wp2_with fail
  go_loopw [5] (fun k wr => ∃ i : Nat, i ≤ rs.length ∧ k = .int .i64 i ∧ Hid (Kp w wr ∧ rs.take i = ss.take i)) (fun k _ => rs.length - (intOf k).toNat)
  case atStart => exact ⟨0, by omega, rfl, Lib.hid ⟨Kp.refl _, rfl⟩⟩
  case round =>
   obtain ⟨i, hi, rfl, K⟩ := hrel
   by_cases hlt : i < rs.length
   ·have hlt2 : i < ss.length := by have := HLE.out; omega
    have hgi : (i : Int) < (rs.length : Int) := by omega
    have hgj : (i : Int) < (ss.length : Int) := by omega
    have hg0 : (0 : Int) ≤ (i : Int) := by omega
    obtain ⟨b, off, hA1, x0, x1, x2, x3, x4, x5, x6, x7, x8⟩ := vaV (H1.out.keep K.out.1) hlt
    obtain ⟨b', off', hA2, y0, y1, y2, y3, y4, y5, y6, y7, y8⟩ := vaV (H2.out.keep K.out.1) hlt2
    subst hA1
    subst hA2
    obtain ⟨r, hr⟩ : ∃ r, rs[i] = r := ⟨_, rfl⟩
    obtain ⟨q, hq⟩ : ∃ q, ss[i] = q := ⟨_, rfl⟩
    rw [hr] at x0 x1 x2 x3 x4 x5 x6 x7 x8
    rw [hq] at y0 y1 y2 y3 y4 y5 y6 y7 y8
    have HRR := Lib.hid hr
    have HQQ := Lib.hid hq
    have hne := vgv r q
    clear hr hq
    by_cases he : r = q
    ·rw [decide_eq_true he] at hne
     have HN := Lib.hid (ven hlt hlt2 K.out.2 (by rw [HRR.out, HQQ.out, he]))
     clear he
     go_wp2_with fail
     go_quiet (fail)
     have KN : Hid (Kp w (wr.drewN nq)) := Lib.hid (K.out.1.drewN nq)
     clear x0 x1 x2 x3 x4 x5 x6 x7 x8 y0 y1 y2 y3 y4 y5 y6 y7 y8 hne
     go_wp2_with fail
     go_roundw
     case rel => exact ⟨i + 1, by omega, by go_num, Lib.hid ⟨KN.out, HN.out⟩⟩
     case measure => simp [intOf]; omega
    ·rw [decide_eq_false he] at hne
     have HN := Lib.hid (show decide (rs = ss) = false from decide_eq_false (fun e => he (by rw [← HRR.out, ← HQQ.out]; subst e; rfl)))
     clear he
     go_wp2_with fail
     go_quiet (fail)
     have KN : Hid (Kp w (wr.drewN nq)) := Lib.hid (K.out.1.drewN nq)
     clear x0 x1 x2 x3 x4 x5 x6 x7 x8 y0 y1 y2 y3 y4 y5 y6 y7 y8 hne
     go_wp2_with fail
     go_ret
     exact ⟨by rw [HN.out] <;> rfl, KN.out⟩
   ·obtain rfl : i = rs.length := by omega
    have HN := Lib.hid (show decide (rs = ss) = true from decide_eq_true (by
     have h1 := K.out.2
     rwa [List.take_length, HLE.out, List.take_length] at h1))
    go_wp2_with fail
    go_ret
    exact ⟨by rw [HN.out] <;> rfl, K.out.1⟩
 ·have hln : ((rs.length : Int) != (ss.length : Int)) = true := by simp; omega
  have HN := Lib.hid (show decide (rs = ss) = false from decide_eq_false (fun e => hle (by rw [e])))
  clear hle
  go_enter Tryz.func64, Tryz.ntmps64
  go_wp2_with fail
  go_ret
  exact ⟨by rw [HN.out] <;> rfl, Kp.refl _⟩
end

section
open Go.RowKit Go.Maps
structure Good (T : Tb) : Prop where
 ok : TbOk T
 xs : ∀ r ∈ T.l, r.x < 4294967296
 own : ∀ k (hk : k < T.c.own.length), T.c.own[k].a < 4294967296
theorem vnp {c : Cf} {r : Rt} {h : Hd} {now : Int} (hr : r.x < 4294967296) (hh : h.a < 4294967296) : (hearR c r h now).x < 4294967296 := by
 unfold hearR newR lostR
 repeat' split
 all_goals first | exact hr | exact hh
theorem was_x {T : Tb} (h : ∀ r ∈ T.l, r.x < 4294967296) (p : PI) : (wasR p T.l).x < 4294967296 := by
 unfold wasR
 cases e : getR p T.l with
 | none => exact (by decide : (0 : Nat) < 4294967296)
 | some r => exact h r (vat e).1
theorem set_x {L : List Rt} {r : Rt} (h : ∀ x ∈ L, x.x < 4294967296) (hr : r.x < 4294967296) : ∀ x ∈ setR r L, x.x < 4294967296 := fun x hx => by
 rcases vao.1 hx with ⟨rfl, _⟩ | ⟨hx, _⟩
 ·exact hr
 ·exact h x hx
theorem Good.heard {T : Tb} (h : Good T) (p : PI) {k : Hd} (now : Int) (hk : k.a < 4294967296) : Good (heardT T p k now).1 := by
 refine ⟨vkx h.ok p k now, ?_, ?_⟩
 ·unfold heardT
  repeat' split
  all_goals first | exact h.xs | exact set_x h.xs (vnp (was_x h.xs p) hk)
 ·have : (heardT T p k now).1.c = T.c := by unfold heardT; (repeat' split) <;> rfl
  rw [this]
  exact h.own
theorem veo {T : Tb} (h : Good T) (f : Int) : ∀ i, ∀ r ∈ (lostA T f i).1, r.x < 4294967296
 | 0 => by unfold lostA; rw [List.take_zero]; exact h.xs
 | i + 1 => by
  by_cases hi : i < (validL T.l).length
  ·rw [vbK hi]
   unfold loseG
   split
   ·exact set_x (veo h f i) (vlw (h.xs _ (List.mem_filter.1 (List.getElem_mem hi)).1))
   ·exact veo h f i
  ·have : lostA T f (i + 1) = lostA T f i := by unfold lostA; rw [List.take_of_length_le (by omega), List.take_of_length_le (by omega)]
   rw [this]
   exact veo h f i
theorem Good.at {T : Tb} (h : Good T) {now : Int} (ht : 0 ≤ now ∧ now ≤ 4611686018426387904) : Good ⟨T.c, T.l, now, T.rf⟩ := ⟨⟨h.ok.c, h.ok.u, h.ok.r, h.ok.n, ht, h.ok.f⟩, h.xs, h.own⟩
theorem Good.lost {T : Tb} (h : Good T) (f now : Int) : Good (lostT T f now).1 := by
 refine ⟨vmz h.ok f now, ?_, ?_⟩
 ·unfold lostT
  split
  ·split
   ·next ht =>
    have h2 := veo (h.at (now := now) (by have := vak.1 ht; omega)) f (validL T.l).length
    unfold lostA at h2
    rw [List.take_length, ← vbJ] at h2
    exact h2
   ·exact h.xs
  ·exact h.xs
 ·have : (lostT T f now).1.c = T.c := by unfold lostT; (repeat' split) <;> rfl
  rw [this]
  exact h.own
theorem vlx {c : Cf} {now : Int} : ∀ (k : Nat) (L : List Rt), UpR L → (∀ r ∈ L, r.x < 4294967296) → ∀ r ∈ (expG c now k L).1, r.x < 4294967296
 | 0, L, _, h => h
 | k + 1, L, u, h => by
  unfold expG
  split
  ·exact h
  ·next r e =>
   split
   ·exact h
   ·exact vlx k _ (vaU _ u) (set_x h (exp_x (h r ((vay u).2 r e).1)))
theorem Good.exp {T : Tb} (h : Good T) (now : Int) : Good (expT T now).1 := by
 refine ⟨vnf h.ok now, ?_, ?_⟩
 ·unfold expT
  split
  ·exact vlx 1000 T.l h.ok.u h.xs
  ·exact h.xs
 ·have : (expT T now).1.c = T.c := by unfold expT; split <;> rfl
  rw [this]
  exact h.own
theorem Good.seen {T : Tb} (h : Good T) : Good (seenT T).1 :=
 ⟨vmA h.ok, fun r hr => by obtain ⟨y, hy, rfl⟩ := List.mem_map.1 hr; exact h.xs y hy, h.own⟩
theorem Good.new {c : Cf} (hc : okCf c = true) (ho : ∀ k (hk : k < c.own.length), c.own[k].a < 4294967296) : Good (newT c) := by
 refine ⟨vls hc, fun r hr => ?_, ho⟩
 rcases ((vaT c.own [] List.Pairwise.nil).2.1 r).1 hr with ⟨p, _, rfl⟩ | ⟨h, _⟩
 ·exact (by decide : (0 : Nat) < 4294967296)
 ·simp at h
def Sm (bs : List Nat) (W W' : World) : Prop := ∀ b ∈ bs, W'.heap[b]? = W.heap[b]?
theorem Sm.trans {bs : List Nat} {U V W : World} (h : Sm bs U V) (k : Sm bs V W) : Sm bs U W := fun b hb => (k b hb).trans (h b hb)
theorem Sm.blk {bs : List Nat} {W W' : World} (h : Sm bs W W') {b : Nat} (hb : b ∈ bs) {t : TypeId} {cs : Array Value} (k : Blk W b t cs) : Blk W' b t cs := (h b hb).trans k
theorem Sm.rd {α : Type} {bs : List Nat} {W W' : World} (h : Sm bs W W') {sz : Nat} {enc : α → List Value} {A : Option Addr} {xs : List α} (hA : ∀ a, A = some a → a.block ∈ bs) (k : Rd W sz enc A xs) : Rd W' sz enc A xs := fun i hi => by
 obtain ⟨b, off, e, hc⟩ := k i hi
 exact ⟨b, off, e, fun j u hu => (World.cell?_of_block (w := W) (h b (hA ⟨b, off, none⟩ e))).trans (hc j u hu)⟩
theorem Sm.of_kp {bs : List Nat} {W W' : World} (k : Kp W W') (hb : ∀ b ∈ bs, b < W.heap.size) : Sm bs W W' := fun b h => k.heap (hb b h)
theorem Sm.cut {bs cs : List Nat} {W W' : World} (h : Sm bs W W') (hc : ∀ b ∈ cs, b ∈ bs) : Sm cs W W' := fun b hb => h b (hc b hb)
structure TS (w0 W : World) (B t : Nat) (T : Tb) (bs : List Nat) : Prop where
 kp : Kp w0 W
 lb : w0.heap.size ≤ B
 tm : ∃ F, TabM W B t F T ∧ ∀ b ∈ bs, b ∉ F
 lt : ∀ b ∈ bs, b < W.heap.size
 gd : Good T
 ca : CapAt w0
 fa : FacAt w0
theorem TS.keep {w0 W W' : World} {B t : Nat} {T : Tb} {bs : List Nat} (h : TS w0 W B t T bs) (k : Kp W W') : TS w0 W' B t T bs := by
 obtain ⟨F, hT, hn⟩ := h.tm
 exact ⟨h.kp.trans k, h.lb, ⟨F, hT.keep k, hn⟩, fun b hb => Nat.lt_of_lt_of_le (h.lt b hb) k.size, h.gd, h.ca, h.fa⟩
theorem TS.add {w0 W : World} {B t : Nat} {T : Tb} {bs : List Nat} (h : TS w0 W B t T bs) {W' : World} (k : Kp W W') {cs : List Nat} (hc : ∀ b ∈ cs, W.heap.size ≤ b ∧ b < W'.heap.size) : TS w0 W' B t T (cs ++ bs) := by
 obtain ⟨F, hT, hn⟩ := h.tm
 refine ⟨h.kp.trans k, h.lb, ⟨F, hT.keep k, fun b hb => ?_⟩, fun b hb => ?_, h.gd, h.ca, h.fa⟩
 ·rcases List.mem_append.1 hb with hb | hb
  ·exact fun z => by have := (hT.lo b z).2; have := (hc b hb).1; omega
  ·exact hn b hb
 ·rcases List.mem_append.1 hb with hb | hb
  ·exact (hc b hb).2
  ·exact Nat.lt_of_lt_of_le (h.lt b hb) k.size
theorem TS.cut {w0 W : World} {B t : Nat} {T : Tb} {bs cs : List Nat} (h : TS w0 W B t T bs) (hc : ∀ b ∈ cs, b ∈ bs) : TS w0 W B t T cs := by
 obtain ⟨F, hT, hn⟩ := h.tm
 exact ⟨h.kp, h.lb, ⟨F, hT, fun b hb => hn b (hc b hb)⟩, fun b hb => h.lt b (hc b hb), h.gd, h.ca, h.fa⟩
theorem TS.other {w0 W W' : World} {B t : Nat} {T : Tb} {bs cs : List Nat} (h : TS w0 W B t T bs) (hc : ∀ b ∈ cs, b ∈ bs ∧ w0.heap.size ≤ b ∧ ∃ ty xs, Blk W b ty xs ∧ ty ≠ 29) (k : Only cs W W') : TS w0 W' B t T bs := by
 obtain ⟨F, hT, hn⟩ := h.tm
 exact ⟨k.kp h.kp (fun b hb => (hc b hb).2.1), h.lb, ⟨F, hT.turn k (fun b hb => ⟨hn b (hc b hb).1, (hc b hb).2.2⟩), hn⟩, fun b hb => Nat.lt_of_lt_of_le (h.lt b hb) k.size, h.gd, h.ca, h.fa⟩
theorem TS.turn {w0 W W' : World} {B t : Nat} {F : List Nat} {T T' : Tb} {bs : List Nat} (h : TS w0 W B t T bs) (hF : TabM W B t F T) (hn : ∀ b ∈ bs, b ∉ F) (k : TabT W W' B t F T') (g : Good T') : TS w0 W' B t T' bs ∧ Sm bs W W' := by
 obtain ⟨F', h1, h2, h3⟩ := k
 refine ⟨⟨h2.kp h.kp (fun b hb => Nat.le_trans h.lb (hF.lo b hb).1), h.lb, ⟨F', h1, fun b hb z => ?_⟩, fun b hb => Nat.lt_of_lt_of_le (h.lt b hb) h2.size, g, h.ca, h.fa⟩, fun b hb => h2.block b (h.lt b hb) (hn b hb)⟩
 rcases h3 b z with e | e
 ·exact hn b hb e
 ·have := h.lt b hb
  omega
theorem TS.gs {w0 W : World} {B t : Nat} {T : Tb} {bs : List Nat} (h : TS w0 W B t T bs) : 1 < B ∧ 0 < B ∧ CapAt W ∧ FacAt W := by
 have h1 := World.block_lt_of_cell? w0 _ h.ca.1
 have h2 := World.block_lt_of_cell? w0 _ h.fa.1
 have := h.lb
 exact ⟨Nat.lt_of_lt_of_le h1 this, Nat.lt_of_lt_of_le h2 this, h.ca.keep h.kp, h.fa.keep h.kp⟩
def TurnP (w0 W : World) (B t : Nat) (T' : Tb) (bs : List Nat) (v : Value) (e : Ending) (W' : World) : Prop := e = .returned v ∧ TS w0 W' B t T' bs ∧ Sm bs W W'
theorem vjj (w0 W : World) (B t : Nat) (T : Tb) (bs : List Nat) (S : TS w0 W B t T bs) (p : PI) (h : Hd) (now : Int) (hp : wfP p) (hh : h.a < 4294967296) :
  Calls Tryz.prog 23 #[.pointer (some ⟨t, 0, none⟩), pfV p, .agg #[.int .i64 h.f, .int .u32 (h.a : Int), .int .i64 h.m], .int .i64 now] W (TurnP w0 W B t (heardT T p h now).1 bs (.tuple #[roV (heardT T p h now).2.1, .int .i64 (heardT T p h now).2.2])) := by
 obtain ⟨F, hT, hn⟩ := S.tm
 refine (veQ B t F T p h now W hT S.gd.ok S.gd.xs S.gd.own S.gs.2.2.1 hp hh).mono ?_
 rintro e W' ⟨rfl, k⟩
 exact ⟨rfl, S.turn hT hn k (S.gd.heard p now hh)⟩
theorem vjk (w0 W : World) (B t : Nat) (T : Tb) (bs : List Nat) (S : TS w0 W B t T bs) (now : Int) :
  Calls Tryz.prog 27 #[.pointer (some ⟨t, 0, none⟩), .int .i64 now] W (TurnP w0 W B t (expT T now).1 bs (.tuple #[.int .i64 (expT T now).2.1, .int .i64 (expT T now).2.2])) := by
 obtain ⟨F, hT, hn⟩ := S.tm
 refine (vgm B t F T now W hT S.gd.ok S.gd.xs S.gd.own S.gs.2.2.1 S.gs.1).mono ?_
 rintro e W' ⟨rfl, k⟩
 exact ⟨rfl, S.turn hT hn k (S.gd.exp now)⟩
theorem TS.new {w0 W W' : World} {t : Nat} {F : List Nat} {T : Tb} {bs : List Nat} (k0 : Kp w0 W) (hM : TabM W' W.heap.size t F T) (k : Kp W W') (hb : ∀ b ∈ bs, b < W.heap.size) (g : Good T) (ca : CapAt w0) (fa : FacAt w0) : TS w0 W' W.heap.size t T bs :=
 ⟨k0.trans k, k0.size, ⟨F, hM, fun b h z => by have := (hM.lo b z).1; have := hb b h; omega⟩, fun b h => Nat.lt_of_lt_of_le (hb b h) k.size, g, ca, fa⟩
def NoPre (W : World) (F : List Nat) : Prop := ∀ b ∈ F, ∃ o, W.heap[b]? = some o ∧ ∀ xs, o ≠ .cells xs 29
theorem NoPre.of_blk {W : World} {b : Nat} {t : TypeId} {cs : Array Value} (h : Blk W b t cs) (ht : t ≠ 29) : ∃ o, W.heap[b]? = some o ∧ ∀ xs, o ≠ .cells xs 29 :=
 ⟨_, h, fun xs e => by injection e with _ e; exact ht e⟩
theorem NoPre.only {W W' : World} {F bs : List Nat} (h : NoPre W F) (k : Only bs W W') (hd : ∀ b ∈ F, b ∉ bs) : NoPre W' F := fun b hb => by
 obtain ⟨o, h1, h2⟩ := h b hb
 exact ⟨o, (k.block b (Array.getElem?_eq_some_iff.1 h1).1 (hd b hb)).trans h1, h2⟩
theorem NoPre.keep {W W' : World} {F : List Nat} (h : NoPre W F) (k : Kp W W') : NoPre W' F := h.only (bs := []) (Only.of_kp k) (by simp)
theorem TabX.trim {w : World} {B t q mp m : Nat} {A : Option Addr} {QF : List Nat} {l : List Tw} {T : Tb} (X : TabX w B t q mp m A QF l T) : ∃ G, (∀ b ∈ G, b ∈ QF) ∧ TabX w B t q mp m A G l T ∧ NoPre w (t :: mp :: G) := by
 obtain ⟨qq, mm, v, hA, Q, ha, hq, hm, hg⟩ := X.qs.q
 have hs : ∀ b ∈ q :: qq :: mm :: v.ownBlock.toList, b ∈ QF := by
  intro b hb
  simp only [List.mem_cons, Option.mem_toList] at hb
  rcases hb with rfl | rfl | rfl | hb
  ·exact ha
  ·exact hq
  ·exact hm
  ·exact hg _ hb
 refine ⟨q :: qq :: mm :: v.ownBlock.toList, hs, ?_, ?_⟩
 ·exact { bk := X.bk, qs := ⟨⟨qq, mm, v, hA, Q, by simp, by simp, by simp, fun g e => by simp [e]⟩, fun b hb => X.qs.lo b (hs b hb), X.qs.hp, X.qs.k3⟩, pm := X.pm, mr := X.mr, ow := X.ow, tq := fun z => X.tq (hs _ z), mq := fun z => X.mq (hs _ z), mt := X.mt, an := fun a e => ⟨fun z => (X.an a e).1 (hs _ z), (X.an a e).2⟩, bt := X.bt, bm := X.bm, u := X.u, wf := X.wf, n := X.n }
 ·intro b hb
  simp only [List.mem_cons, Option.mem_toList] at hb
  rcases hb with rfl | rfl | rfl | rfl | rfl | hb
  ·exact NoPre.of_blk X.bk (by decide)
  ·obtain ⟨es, ⟨es', clock, h1, _⟩, _⟩ := X.mr
   exact ⟨_, h1, fun xs e => by cases e⟩
  ·exact NoPre.of_blk hA (by decide)
  ·exact NoPre.of_blk Q.bk (by decide)
  ·obtain ⟨f, h1, _⟩ := Q.mp
   obtain ⟨es, cl, h2⟩ := h1.heap
   exact ⟨_, h2, fun xs e => by cases e⟩
  ·rcases Q.own.2 with ⟨hv, _⟩ | ⟨g', cap, cur, hv, _, hc, _⟩
   ·rw [hv] at hb
    simp [Value.ownBlock] at hb
   ·rw [hv] at hb
    simp only [Value.ownBlock, Option.some.injEq] at hb
    subst hb
    exact ⟨_, hc, fun xs e => by injection e with _ e; exact absurd e (by decide)⟩
theorem TabM.trim {w : World} {B t : Nat} {F : List Nat} {T : Tb} (h : TabM w B t F T) : ∃ G, (∀ b ∈ G, b ∈ F) ∧ TabM w B t G T ∧ NoPre w G := by
 obtain ⟨q, mp, m, A, QF, l, rfl, X⟩ := h
 obtain ⟨G, h1, h2, h3⟩ := X.trim
 refine ⟨t :: mp :: G, fun b hb => ?_, ⟨q, mp, m, A, G, l, rfl, h2⟩, h3⟩
 simp only [List.mem_cons] at hb ⊢
 rcases hb with rfl | rfl | hb
 ·exact .inl rfl
 ·exact .inr (.inl rfl)
 ·exact .inr (.inr (h1 b hb))
theorem TabM.by_ {w w' : World} {B t : Nat} {F bs : List Nat} {T : Tb} (h : TabM w B t F T) (k : Only bs w w') (hd : ∀ b ∈ bs, b ∉ F) (hn : NoPre w bs) : TabM w' B t F T := by
 obtain ⟨q, mp, m, A, QF, l, rfl, X⟩ := h
 refine ⟨q, mp, m, A, QF, l, rfl, X.only k hd (fun a e z => ?_)⟩
 obtain ⟨o, h1, h2⟩ := hn _ z
 rcases X.ow.2 with ⟨hv, _⟩ | ⟨g', cap, cur, hv, _, hc, _⟩
 ·subst e; cases hv
 ·subst e
  injection hv with e1
  injection e1 with e1
  subst e1
  rw [hc] at h1
  exact h2 cur (Option.some.inj h1).symm
theorem Only.over {F F1 : List Nat} {w w1 w2 : World} (k : Only F w w1) (hF : ∀ b ∈ F1, b ∈ F ∨ w.heap.size ≤ b) (h : Only F1 w1 w2) : Only F w w2 :=
 ⟨h.os.trans k.os, h.tape.trans k.tape, h.output.trans k.output, Nat.le_trans k.size h.size, fun i hi hn => by
  rw [h.block i (Nat.lt_of_lt_of_le hi k.size) (fun e => (hF i e).elim hn (fun z => by omega)), k.block i hi hn]⟩
theorem Only.more {F F1 : List Nat} {w w1 : World} (k : Only F w w1) (hF : ∀ b ∈ F, b ∈ F1) : Only F1 w w1 :=
 ⟨k.os, k.tape, k.output, k.size, fun i hi hn => k.block i hi (fun z => hn (hF i z))⟩
structure TQ (w0 W : World) (B t : Nat) (T : Tb) (P : World → Prop) : Prop where
 kp : Kp w0 W
 lb : w0.heap.size ≤ B
 tm : ∃ F, TabM W B t F T ∧ NoPre W F ∧ ∀ W', Only F W W' → P W'
 gd : Good T
 ca : CapAt w0
 fa : FacAt w0
structure TT (w0 W : World) (B t : Nat) (T : Tb) (C u : Nat) (U : Tb) (P : World → Prop) : Prop where
 kp : Kp w0 W
 lb : w0.heap.size ≤ B
 lc : w0.heap.size ≤ C
 tm : ∃ F G, TabM W B t F T ∧ TabM W C u G U ∧ NoPre W F ∧ NoPre W G ∧ (∀ b ∈ F, b ∉ G) ∧ ∀ W', Only (F ++ G) W W' → P W'
 gt : Good T
 gu : Good U
 ca : CapAt w0
 fa : FacAt w0
theorem TQ.p {w0 W : World} {B t : Nat} {T : Tb} {P : World → Prop} (S : TQ w0 W B t T P) : P W := by
 obtain ⟨F, _, _, h⟩ := S.tm
 exact h W (Only.refl _ _)
theorem TT.p {w0 W : World} {B t C u : Nat} {T U : Tb} {P : World → Prop} (S : TT w0 W B t T C u U P) : P W := by
 obtain ⟨F, G, _, _, _, _, _, h⟩ := S.tm
 exact h W (Only.refl _ _)
theorem TT.swap {w0 W : World} {B t C u : Nat} {T U : Tb} {P : World → Prop} (S : TT w0 W B t T C u U P) : TT w0 W C u U B t T P := by
 obtain ⟨F, G, h1, h2, h3, h4, h5, h6⟩ := S.tm
 exact ⟨S.kp, S.lc, S.lb, ⟨G, F, h2, h1, h4, h3, fun b hb hf => h5 b hf hb, fun W' k => h6 W' (k.more (fun b hb => by simp only [List.mem_append] at hb ⊢; exact hb.symm))⟩, S.gu, S.gt, S.ca, S.fa⟩
theorem TQ.new {w0 W W' : World} {t : Nat} {F : List Nat} {T : Tb} {P : World → Prop} (k0 : Kp w0 W) (hM : TabM W' W.heap.size t F T) (k : Kp W W') (hP : ∀ V, Kp W V → P V) (g : Good T) (ca : CapAt w0) (fa : FacAt w0) : TQ w0 W' W.heap.size t T P := by
 obtain ⟨G, h1, h2, h3⟩ := hM.trim
 exact ⟨k0.trans k, k0.size, ⟨G, h2, h3, fun V hV => hP V (hV.kp k (fun b hb => (h2.lo b hb).1))⟩, g, ca, fa⟩
theorem TQ.keep {w0 W W' : World} {B t : Nat} {T : Tb} {P : World → Prop} (S : TQ w0 W B t T P) (k : Kp W W') : TQ w0 W' B t T P := by
 obtain ⟨F, h1, h2, h3⟩ := S.tm
 exact ⟨S.kp.trans k, S.lb, ⟨F, h1.keep k, h2.keep k, fun V hV => h3 V ((Only.of_kp k).over (fun b hb => .inl hb) hV)⟩, S.gd, S.ca, S.fa⟩
theorem TQ.imp {w0 W : World} {B t : Nat} {T : Tb} {P Q : World → Prop} (S : TQ w0 W B t T P) (h : ∀ V, P V → Q V) : TQ w0 W B t T Q := by
 obtain ⟨F, h1, h2, h3⟩ := S.tm
 exact ⟨S.kp, S.lb, ⟨F, h1, h2, fun V hV => h V (h3 V hV)⟩, S.gd, S.ca, S.fa⟩
theorem TT.imp {w0 W : World} {B t C u : Nat} {T U : Tb} {P Q : World → Prop} (S : TT w0 W B t T C u U P) (h : ∀ V, P V → Q V) : TT w0 W B t T C u U Q := by
 obtain ⟨F, G, h1, h2, h3, h4, h5, h6⟩ := S.tm
 exact ⟨S.kp, S.lb, S.lc, ⟨F, G, h1, h2, h3, h4, h5, fun V hV => h V (h6 V hV)⟩, S.gt, S.gu, S.ca, S.fa⟩
theorem TT.keep {w0 W W' : World} {B t C u : Nat} {T U : Tb} {P : World → Prop} (S : TT w0 W B t T C u U P) (k : Kp W W') : TT w0 W' B t T C u U P := by
 obtain ⟨F, G, h1, h2, h3, h4, h5, h6⟩ := S.tm
 exact ⟨S.kp.trans k, S.lb, S.lc, ⟨F, G, h1.keep k, h2.keep k, h3.keep k, h4.keep k, h5, fun V hV => h6 V ((Only.of_kp k).over (fun b hb => .inl hb) hV)⟩, S.gt, S.gu, S.ca, S.fa⟩
theorem TQ.pair {w0 W W' : World} {B t C u : Nat} {G : List Nat} {T U : Tb} {P : World → Prop} (S : TQ w0 W B t T P) (hM : TabM W' C u G U) (hC : W.heap.size ≤ C) (k : Kp W W') (g : Good U) : TT w0 W' B t T C u U P := by
 obtain ⟨F, h1, h2, h3⟩ := S.tm
 obtain ⟨G', g1, g2, g3⟩ := hM.trim
 have lo : ∀ b ∈ G', W.heap.size ≤ b := fun b hb => Nat.le_trans hC (g2.lo b hb).1
 refine ⟨S.kp.trans k, S.lb, Nat.le_trans S.kp.size hC, ⟨F, G', h1.keep k, g2, h2.keep k, g3, fun b hb hg => ?_, fun V hV => h3 V ((Only.of_kp k).over (F1 := F ++ G') (fun b hb => ?_) hV)⟩, S.gd, g, S.ca, S.fa⟩
 ·have := (h1.lo b hb).2
  have := lo b hg
  omega
 ·rcases List.mem_append.1 hb with hb | hb
  ·exact .inl hb
  ·exact .inr (lo b hb)
theorem TT.fst {w0 W : World} {B t C u : Nat} {T U : Tb} {P : World → Prop} (S : TT w0 W B t T C u U P) : TQ w0 W B t T P := by
 obtain ⟨F, G, h1, h2, h3, h4, h5, h6⟩ := S.tm
 exact ⟨S.kp, S.lb, ⟨F, h1, h3, fun V hV => h6 V (hV.more (fun b hb => List.mem_append.2 (.inl hb)))⟩, S.gt, S.ca, S.fa⟩
theorem TT.snd {w0 W : World} {B t C u : Nat} {T U : Tb} {P : World → Prop} (S : TT w0 W B t T C u U P) : TQ w0 W C u U P := S.swap.fst
theorem TQ.turn {w0 W W' : World} {B t : Nat} {F : List Nat} {T T' : Tb} {P : World → Prop} (S : TQ w0 W B t T P) (hM : TabM W B t F T) (h3 : ∀ W', Only F W W' → P W') (k : TabT W W' B t F T') (g : Good T') : TQ w0 W' B t T' P := by
 obtain ⟨F', k1, k2, k3⟩ := k
 obtain ⟨G, g1, g2, g3⟩ := k1.trim
 exact ⟨k2.kp S.kp (fun b hb => Nat.le_trans S.lb (hM.lo b hb).1), S.lb, ⟨G, g2, g3, fun V hV => h3 V (k2.over (fun b hb => k3 b (g1 b hb)) hV)⟩, g, S.ca, S.fa⟩
theorem TQ.gs {w0 W : World} {B t : Nat} {T : Tb} {P : World → Prop} (h : TQ w0 W B t T P) : 1 < B ∧ 0 < B ∧ CapAt W ∧ FacAt W := by
 have h1 := World.block_lt_of_cell? w0 _ h.ca.1
 have h2 := World.block_lt_of_cell? w0 _ h.fa.1
 have := h.lb
 exact ⟨Nat.lt_of_lt_of_le h1 this, Nat.lt_of_lt_of_le h2 this, h.ca.keep h.kp, h.fa.keep h.kp⟩
theorem TQ.len_own {w0 W : World} {B t : Nat} {T : Tb} {P : World → Prop} (S : TQ w0 W B t T P) : T.c.own.length ≤ 16 := by
 have := (vaw S.gd.ok.c).2.2.1
 omega
theorem TQ.tab {w0 W : World} {B t : Nat} {T : Tb} {P : World → Prop} (S : TQ w0 W B t T P) : ∃ F, TabM W B t F T := by
 obtain ⟨F, h, _⟩ := S.tm
 exact ⟨F, h⟩
theorem vmU (w0 W : World) (B t : Nat) (T : Tb) (P : World → Prop) (S : TQ w0 W B t T P) (p : PI) (h : Hd) (now : Int) (hp : wfP p) (hh : h.a < 4294967296) :
  Calls Tryz.prog 23 #[.pointer (some ⟨t, 0, none⟩), pfV p, .agg #[.int .i64 h.f, .int .u32 (h.a : Int), .int .i64 h.m], .int .i64 now] W fun e W' => e = .returned (.tuple #[roV (heardT T p h now).2.1, .int .i64 (heardT T p h now).2.2]) ∧ TQ w0 W' B t (heardT T p h now).1 P := by
 obtain ⟨F, hT, _, h3⟩ := S.tm
 refine (veQ B t F T p h now W hT S.gd.ok S.gd.xs S.gd.own S.gs.2.2.1 hp hh).mono ?_
 rintro e W' ⟨rfl, k⟩
 exact ⟨rfl, S.turn hT h3 k (S.gd.heard p now hh)⟩
theorem vmV (w0 W : World) (B t : Nat) (T : Tb) (P : World → Prop) (S : TQ w0 W B t T P) (f now : Int) :
  Calls Tryz.prog 26 #[.pointer (some ⟨t, 0, none⟩), .int .i64 f, .int .i64 now] W fun e W' => e = .returned (.tuple #[.int .i64 (lostT T f now).2.1, .int .i64 (lostT T f now).2.2]) ∧ TQ w0 W' B t (lostT T f now).1 P := by
 obtain ⟨F, hT, _, h3⟩ := S.tm
 refine (vje B t F T f now W hT S.gd.ok S.gd.xs S.gd.own S.gs.2.2.1 S.gs.1 S.gs.2.2.2).mono ?_
 rintro e W' ⟨rfl, k⟩
 exact ⟨rfl, S.turn hT h3 k (S.gd.lost f now)⟩
theorem vnq (w0 W : World) (B t : Nat) (T : Tb) (P : World → Prop) (S : TQ w0 W B t T P) (now : Int) :
  Calls Tryz.prog 27 #[.pointer (some ⟨t, 0, none⟩), .int .i64 now] W fun e W' => e = .returned (.tuple #[.int .i64 (expT T now).2.1, .int .i64 (expT T now).2.2]) ∧ TQ w0 W' B t (expT T now).1 P := by
 obtain ⟨F, hT, _, h3⟩ := S.tm
 refine (vgm B t F T now W hT S.gd.ok S.gd.xs S.gd.own S.gs.2.2.1 S.gs.1).mono ?_
 rintro e W' ⟨rfl, k⟩
 exact ⟨rfl, S.turn hT h3 k (S.gd.exp now)⟩
theorem vmW (w0 W : World) (B t : Nat) (T : Tb) (P : World → Prop) (S : TQ w0 W B t T P) :
  Calls Tryz.prog 29 #[.pointer (some ⟨t, 0, none⟩)] W fun e W' => e = .returned (.int .i64 (seenT T).2) ∧ TQ w0 W' B t (seenT T).1 P := by
 obtain ⟨F, hT, _, h3⟩ := S.tm
 refine (vjg B t F T W hT S.gd.ok).mono ?_
 rintro e W' ⟨rfl, k⟩
 exact ⟨rfl, S.turn hT h3 k S.gd.seen⟩
theorem vmX (w0 W : World) (B t : Nat) (T : Tb) (P : World → Prop) (S : TQ w0 W B t T P) :
  Calls Tryz.prog 19 #[.pointer (some ⟨t, 0, none⟩)] W fun e W' => ∃ u, e = .returned (.pointer (some ⟨u, 0, none⟩)) ∧ TT w0 W' B t T W.heap.size u T P ∧ Kp W W' := by
 obtain ⟨F, hT⟩ := S.tab
 have hl := S.len_own
 refine (vjh B t F T W hT (by omega)).mono ?_
 rintro e W' ⟨u, G, rfl, hM, k⟩
 exact ⟨u, rfl, S.pair hM (Nat.le_refl _) k S.gd, k⟩
def netP (n : Nat) : PI := ⟨167772160 + n * 65536, 16⟩
theorem vaQ (n : Int) (w : World) : Calls Tryz.prog 18 #[.int .i64 n] w fun e w' => e = .returned (.int .i64 n) ∧ w = w' := by
 go_enter Tryz.func18, Tryz.ntmps18
 go_wp2_with fail
 go_ret
 exact ⟨rfl, rfl⟩
set_option maxRecDepth 100000 in
theorem net_1 (w : World) : Calls Tryz.prog 38 #[.int .u32 1] w fun e w' => e = .returned (.agg #[.int .u32 167837696, .int .i64 16]) ∧ Kp w w' := by
 have B := Blk.new w 29 #[.int .u32 167837696, .int .i64 16]
 obtain ⟨q0, q1⟩ := Blk.v2 B (.int .u32 167837696) (.int .i64 16) rfl
 go_enter Tryz.func38, Tryz.ntmps38
 go_wp2_with fail
 exact ⟨rfl, .agg #[.int .u32 167837696, .int .i64 16], by simp [results, Tryz.results38, go_sem, q0, q1], rfl, (Kp.refl w).alloc _⟩
set_option maxRecDepth 100000 in
theorem net_5 (w : World) : Calls Tryz.prog 38 #[.int .u32 5] w fun e w' => e = .returned (.agg #[.int .u32 168099840, .int .i64 16]) ∧ Kp w w' := by
 have B := Blk.new w 29 #[.int .u32 168099840, .int .i64 16]
 obtain ⟨q0, q1⟩ := Blk.v2 B (.int .u32 168099840) (.int .i64 16) rfl
 go_enter Tryz.func38, Tryz.ntmps38
 go_wp2_with fail
 exact ⟨rfl, .agg #[.int .u32 168099840, .int .i64 16], by simp [results, Tryz.results38, go_sem, q0, q1], rfl, (Kp.refl w).alloc _⟩
set_option maxRecDepth 100000 in
theorem net_6 (w : World) : Calls Tryz.prog 38 #[.int .u32 6] w fun e w' => e = .returned (.agg #[.int .u32 168165376, .int .i64 16]) ∧ Kp w w' := by
 have B := Blk.new w 29 #[.int .u32 168165376, .int .i64 16]
 obtain ⟨q0, q1⟩ := Blk.v2 B (.int .u32 168165376) (.int .i64 16) rfl
 go_enter Tryz.func38, Tryz.ntmps38
 go_wp2_with fail
 exact ⟨rfl, .agg #[.int .u32 168165376, .int .i64 16], by simp [results, Tryz.results38, go_sem, q0, q1], rfl, (Kp.refl w).alloc _⟩
end

end Go.Proofs.YtffckpkikdlbpaaGreatDoor
