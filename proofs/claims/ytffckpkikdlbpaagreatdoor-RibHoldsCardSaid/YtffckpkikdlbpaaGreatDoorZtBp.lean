/- Lemmas and contracts for the theorem of this claim: SoJ, SoK, SoM, SoN, Ord. -/
import Derived.Test.YtffckpkikdlbpaaGreatDoorZtBo
import Derived.RegionTactic
set_option linter.unusedSimpArgs false
set_option linter.unusedVariables false
namespace Go.Proofs.YtffckpkikdlbpaaGreatDoor
open Go.RowKit Go.Maps Go.Shelf
def RClonP (w : World) (l : List Tw) (e : Ending) (w' : World) : Prop := ∃ A c, e = .returned (.slice A l.length c) ∧ Own w' w.heap.size 160 4 Tw.enc (.slice A l.length c) l ∧ Kp w w'
theorem rows_nil (w : World) : (binOp .eql 148 (.slice none 0 0) (.slice none 0 0)).run Tryz.prog w = .ok (.bool true) w := by kernel_rfl
theorem own_none {α : Type} {w : World} {B e sz n c : Nat} {enc : α → List Value} {l : List α} (h : Own w B e sz enc (.slice none n c) l) : n = 0 ∧ c = 0 ∧ l = [] := by
  have h0 : n = 0 ∧ c = 0 := by
    rcases h.2 with ⟨h2, h3⟩ | ⟨g, cap, cur, hv, _⟩
    · injection h2 with h4 h5 h6; exact ⟨h5, h6⟩
    · injection hv with hv; cases hv
  refine ⟨h0.1, h0.2, ?_⟩
  obtain ⟨A', c', hv⟩ := h.form
  injection hv with _ hv
  exact List.length_eq_zero_iff.1 (by omega)
set_option maxRecDepth 100000 in
set_option maxHeartbeats 1000000 in
theorem rclone_any (B : Nat) (A : Option Addr) (c : Nat) (l : List Tw) (w : World) (hO : Own w B 160 4 Tw.enc (.slice A l.length c) l) (hn : l.length ≤ 900000) :
    Calls Tryz.prog 101 #[.slice A l.length c] w (RClonP w l) := by
  cases A with
  | none =>
    obtain ⟨_, rfl, rfl⟩ := own_none hO
    have h1 := rows_nil
    simp only [List.length_nil]
    go_enter Tryz.func101, Tryz.ntmps101
    go_wp2_with fail
    go_ret
    exact ⟨none, 0, rfl, Own.nil _ _ _ _ _, Kp.refl _⟩
  | some g =>
    obtain ⟨A', c', hv, hR⟩ := hO.rd (by decide) Tw.len
    injection hv with e1 _ e3
    subst e1 e3
    have hE : Own (w.alloc (.cells #[] 160)) w.heap.size 160 4 Tw.enc (.slice (some ⟨w.heap.size, 0, none⟩) 0 0) [] := Own.empty (Nat.le_refl _) (Blk.new w _ _)
    have hnil : ∀ w : World, (binOp .eql 148 (.slice (some g) l.length c) (.slice none 0 0)).run Tryz.prog w = .ok (.bool false) w := fun _ => by kernel_rfl
    clear hO
    go_enter Tryz.func101, Tryz.ntmps101
    go_wp2_with (at_builtin; go_loud (refine wpList_appl ERowT Tw.len Tw.one rfl _ _ rfl rfl rfl hE (hR.keep ((Kp.refl _).alloc _)) (by simp; omega) (by simp) ?_; intro v' w1 hown hg hat; rw [List.nil_append] at hown; have hK1 : Kp w w1 := ((Kp.refl w).alloc _).grown hg (fun q hq => (World.ownsRow.lt hE q hq).1); clear hg hat hE; obtain ⟨A', c', rfl⟩ := hown.form))
    go_ret
    exact ⟨_, _, rfl, hown, hK1⟩
theorem tclone_any (m n : Nat) (f : Tk → Option Nat) (w : World) (h : MpT w m n f) : Calls Tryz.prog 102 #[.map (some m)] w fun e w' => ∃ m', e = .returned (.map (some m')) ∧ w.heap.size ≤ m' ∧ m' < w'.heap.size ∧ MpT w' m' n f ∧ Kp w w' := by
  obtain ⟨D, h1, h2, h3⟩ := h
  refine (AnyW.maps_Clone_owns Tryz.cloneT 158 (plainElem Tryz.prog 3) m n D w h1).mono ?_
  rintro e w' ⟨rfl, k1, _, k3⟩
  exact ⟨_, rfl, Nat.le_refl _, k1.lt, ⟨D, k1, h2, h3⟩, k3⟩
theorem hclone_any (m : Nat) (L : List Rt) (w : World) (h : MapR w m L) : Calls Tryz.prog 58 #[.map (some m)] w fun e w' => ∃ m', e = .returned (.map (some m')) ∧ w.heap.size ≤ m' ∧ MapR w' m' L ∧ Kp w w' := by
  obtain ⟨es, h1, h2⟩ := h
  refine (AnyW.maps_Clone_owns Tryz.cloneH 29 rdAll m L.length (.map es) w h1).mono ?_
  rintro e w' ⟨rfl, k1, _, k3⟩
  exact ⟨_, rfl, Nat.le_refl _, ⟨es, k1, h2⟩, k3⟩
def MpS (w0 w : World) (m n : Nat) (f : Tk → Option Nat) : Prop := w0.heap.size ≤ m ∧ m < w.heap.size ∧ MpT w m n f
theorem MpS.mk {w0 w : World} {m n : Nat} {f : Tk → Option Nat} (h0 : w0.heap.size ≤ m) (h1 : m < w.heap.size) (h2 : MpT w m n f) : MpS w0 w m n f := ⟨h0, h1, h2⟩
def QCopyP (l : List Tw) (w : World) (e : Ending) (w' : World) : Prop := ∃ a bs, e = .returned (.pointer (some ⟨a, 0, none⟩)) ∧ QuS w' w.heap.size a bs l ∧ Kp w w'
theorem QCopyP.mk {l : List Tw} {w w4 : World} {v : Value} {m : Nat} {f : Tk → Option Nat} (O : Own w4 w.heap.size 160 4 Tw.enc v l) (M : MpT w4 m l.length f) (P : PlOf f l) (hm : w.heap.size ≤ m ∧ m < w4.heap.size) (k : Kp w w4) (wf : ∀ t ∈ l, t.tk.wf ∧ wfI t.d) (hp : Heap ltT (fT l) l.length) (k3 : ∀ y ∈ l, y.k = 3) :
    QCopyP l w (.returned (.pointer (some ⟨w4.heap.size + 1, 0, none⟩))) ((w4.alloc (.cells #[v, .map (some m)] 150)).alloc (.cells #[.pointer (some ⟨w4.heap.size, 0, none⟩)] 152)) := by
  have al : Kp w4 ((w4.alloc (.cells #[v, .map (some m)] 150)).alloc (.cells #[.pointer (some ⟨w4.heap.size, 0, none⟩)] 152)) := ((Kp.refl _).alloc _).alloc _
  have hs := k.size
  refine ⟨w4.heap.size + 1, (w4.heap.size + 1) :: w4.heap.size :: m :: v.ownBlock.toList, rfl, ⟨⟨w4.heap.size, m, v, Blk.new1 _ _ _ _, ⟨(Blk.new _ _ _).alloc _, O.keep al, ⟨f, ?_, P⟩, wf⟩, by simp, by simp, by simp, fun g hg => by simp [hg]⟩, fun b hb => ?_, hp, k3⟩, k.trans al⟩
  · obtain ⟨D, ⟨es', clock, g1, g2⟩, h2, h3⟩ := M
    exact ⟨D, ⟨es', clock, (al.heap hm.2).trans g1, g2⟩, h2, h3⟩
  · simp only [World.size_alloc]
    simp only [List.mem_cons, Option.mem_toList] at hb
    rcases hb with rfl | rfl | rfl | hb
    · omega
    · omega
    · omega
    · have := World.ownsRow.lt O b hb
      omega
set_option maxRecDepth 100000 in
set_option maxHeartbeats 4000000 in
theorem qCopy_S (B a : Nat) (bs : List Nat) (l : List Tw) (w : World) (S : QuS w B a bs l) (hl : l.length ≤ 900000) : Calls Tryz.prog 57 #[.pointer (some ⟨a, 0, none⟩)] w (QCopyP l w) := by
  obtain ⟨⟨q, m, v, hA, Q, _⟩, hlo, hp, k3⟩ := S
  obtain ⟨A, c, hv⟩ := Q.own.form
  subst hv
  have c0 : w.cell? ⟨a, 0, none⟩ = some (.pointer (some ⟨q, 0, none⟩)) := hA.cell 0
  have c1 : w.cell? ⟨q, 0, none⟩ = some (.slice A l.length c) := Q.bk.cell 0
  have c2 : w.cell? ⟨q, 1, none⟩ = some (.map (some m)) := Q.bk.cell 1
  obtain ⟨f, hM, hP⟩ := Q.mp
  have HA := Lib.hid hA
  have HQ := Lib.hid Q
  have HM := Lib.hid hM
  have HP := Lib.hid hP
  have HH := Lib.hid hp
  have H3 := Lib.hid k3
  have HK := Lib.hid (fun (W : World) (k : Kp w W) => rclone_any B A c l W (Q.own.keep k) hl)
  have HT := Lib.hid (fun (W : World) (k : Kp w W) => tclone_any m l.length f W (by
    obtain ⟨D, ⟨es', clock, g1, g2⟩, h2, h3⟩ := hM
    exact ⟨D, ⟨es', clock, (k.heap (Array.getElem?_eq_some_iff.1 g1).1).trans g1, g2⟩, h2, h3⟩))
  clear hA Q hM hP hp k3 hlo
  go_enter Tryz.func57, Tryz.ntmps57
  go_upto_region 3 with (first | (go_at_call 100; refine (qNone_is a q _ HA.out).mono ?_; rintro e w' ⟨rfl, rfl⟩))
  have K : Kp w w.drew := (Kp.refl w).drew
  go_region_held3 (fun w' => w'.cell? ⟨a, 0, none⟩ = some (.pointer (some ⟨q, 0, none⟩)) ∧ w'.cell? ⟨q, 0, none⟩ = some (.slice A l.length c) ∧ w'.cell? ⟨q, 1, none⟩ = some (.map (some m)))
    (first | exact ⟨K.cell c0, K.cell c1, K.cell c2⟩ | exact ⟨(K.alloc _).cell c0, (K.alloc _).cell c1, (K.alloc _).cell c2⟩ | go_keep)
    (first
      | (go_at_call 101; refine (HK.out _ K).mono ?_; rintro e wo ⟨A2, c2', rfl, ho, hKo⟩; have ho := ho.mono (Kp.size K); (try (have hm := hm.keepM hKo)); have K := K.trans hKo)
      | (go_at_call 102; refine (HT.out _ K).mono ?_; rintro e wm ⟨m2, rfl, hm0, hm1, hm2, hKm⟩; have hm := MpS.mk (Nat.le_trans (Kp.size K) hm0) hm1 hm2; (try (have ho := ho.keep hKm)); have K := K.trans hKm))
  all_goals
    go_wp2_with fail
    go_ret
    exact QCopyP.mk ho hm.2.2 HP.out ⟨hm.1, hm.2.1⟩ K HQ.out.wf HH.out H3.out
end Go.Proofs.YtffckpkikdlbpaaGreatDoor

namespace Go.Proofs.YtffckpkikdlbpaaGreatDoor
open Go.RowKit Go.Maps
def TCopyP (T : Tb) (w : World) (e : Ending) (w' : World) : Prop := ∃ t F, e = .returned (.pointer (some ⟨t, 0, none⟩)) ∧ TabM w' w.heap.size t F T ∧ Kp w w'
theorem TCopyP.mk {T : Tb} {w w4 : World} {q mp m : Nat} {A : Option Addr} {QF : List Nat} {l : List Tw} (S : QuS w4 w.heap.size q QF l) (O : Own w4 w.heap.size 29 2 PI.enc (.slice A T.c.own.length m) T.c.own) (M : MapR w4 mp T.l) (hm : w.heap.size ≤ mp) (pm : l.Perm (armL T.l))
    (hmq : mp ∉ QF) (han : ∀ a, A = some a → a.block ∉ QF ∧ a.block ≠ mp) (K : Kp w w4) (u : UpR T.l) (wf : ∀ r ∈ T.l, wfP r.p) (n : T.l.length ≤ 900000) : TCopyP T w (.returned (.pointer (some ⟨w4.heap.size, 0, none⟩))) (w4.alloc (.cells (tbC q T A m mp) 107)) := by
  have al : Kp w4 (w4.alloc (.cells (tbC q T A m mp) 107)) := (Kp.refl _).alloc _
  exact ⟨w4.heap.size, _, rfl, ⟨q, mp, m, A, QF, l, rfl, Blk.new _ _ _, S.keep al, pm, M.keep al, O.keep al, fun e => by have := (S.lo _ e).2; omega, hmq, fun e => by have := M.lt; omega, fun a e => ⟨(han a e).1, fun z => by have := (own_lt O a e).2; omega, (han a e).2⟩, K.size, hm, u, wf, n⟩, K.trans al⟩
set_option maxRecDepth 100000 in
set_option maxHeartbeats 4000000 in
theorem copy_any_ (B t : Nat) (F : List Nat) (T : Tb) (w : World) (h : TabM w B t F T) (hn : T.c.own.length ≤ 1000000) : Calls Tryz.prog 19 #[.pointer (some ⟨t, 0, none⟩)] w (TCopyP T w) := by
  obtain ⟨q, mp, m, A, QF, l, _, X⟩ := h
  obtain ⟨W, hWw⟩ : ∃ W, W = w := ⟨_, rfl⟩
  have XW : TabX W B t q mp m A QF l T := by rw [hWw]; exact X
  have gq : W.cell? ⟨t, 0, none⟩ = some (.pointer (some ⟨q, 0, none⟩)) := XW.bk.cell 0
  have g0 : W.cell? ⟨t, 1, none⟩ = some (.int .i64 T.c.t0) := XW.bk.cell 1
  have g1 : W.cell? ⟨t, 2, none⟩ = some (.int .i64 T.c.t1) := XW.bk.cell 2
  have g2 : W.cell? ⟨t, 3, none⟩ = some (.int .i64 T.c.t2) := XW.bk.cell 3
  have g3 : W.cell? ⟨t, 4, none⟩ = some (.int .i64 T.c.t3) := XW.bk.cell 4
  have g4 : W.cell? ⟨t, 5, none⟩ = some (.int .i64 T.c.t4) := XW.bk.cell 5
  have g5 : W.cell? ⟨t, 6, none⟩ = some (.int .i64 T.c.t5) := XW.bk.cell 6
  have g6 : W.cell? ⟨t, 7, none⟩ = some (.int .i64 T.c.t6) := XW.bk.cell 7
  have g7 : W.cell? ⟨t, 8, none⟩ = some (.int .i64 T.c.cap) := XW.bk.cell 8
  have g8 : W.cell? ⟨t, 9, none⟩ = some (.slice A T.c.own.length m) := XW.bk.cell 9
  have hm : W.cell? ⟨t, 10, none⟩ = some (.map (some mp)) := XW.bk.cell 10
  have gn : W.cell? ⟨t, 11, none⟩ = some (.int .i64 T.now) := XW.bk.cell 11
  have gf : W.cell? ⟨t, 12, none⟩ = some (.int .i64 T.rf) := XW.bk.cell 12
  subst hWw
  have hl := X.len
  have HX := Lib.hid X
  have HSL := Lib.hid (SlPI.of_own X.ow)
  clear X XW
  go_enter Tryz.func19, Tryz.ntmps19
  go_upto_region 3 with (first | (go_at_call 56; refine (none_tab t mp _ hm).mono ?_; rintro e w' ⟨rfl, hw'⟩; rw [hw']; clear hw' w'))
  have K : Kp W W.drew := (Kp.refl W).drew
  go_region_held3 (fun w' => w'.cell? ⟨t, 0, none⟩ = some (.pointer (some ⟨q, 0, none⟩)) ∧ w'.cell? ⟨t, 1, none⟩ = some (.int .i64 T.c.t0) ∧ w'.cell? ⟨t, 2, none⟩ = some (.int .i64 T.c.t1) ∧ w'.cell? ⟨t, 3, none⟩ = some (.int .i64 T.c.t2) ∧ w'.cell? ⟨t, 4, none⟩ = some (.int .i64 T.c.t3) ∧ w'.cell? ⟨t, 5, none⟩ = some (.int .i64 T.c.t4) ∧ w'.cell? ⟨t, 6, none⟩ = some (.int .i64 T.c.t5) ∧ w'.cell? ⟨t, 7, none⟩ = some (.int .i64 T.c.t6) ∧ w'.cell? ⟨t, 8, none⟩ = some (.int .i64 T.c.cap) ∧ w'.cell? ⟨t, 9, none⟩ = some (.slice A T.c.own.length m) ∧ w'.cell? ⟨t, 10, none⟩ = some (.map (some mp)) ∧ w'.cell? ⟨t, 11, none⟩ = some (.int .i64 T.now) ∧ w'.cell? ⟨t, 12, none⟩ = some (.int .i64 T.rf))
    (first | exact ⟨K.cell gq, K.cell g0, K.cell g1, K.cell g2, K.cell g3, K.cell g4, K.cell g5, K.cell g6, K.cell g7, K.cell g8, K.cell hm, K.cell gn, K.cell gf⟩ | go_keep)
    (first
      | (go_at_call 57; refine (qCopy_S B q QF l _ (HX.out.qs.keep K) hl).mono ?_; rintro e wq ⟨q2, QF2, rfl, hq, hKq⟩; have hlq := hq.lo; have hq := hq.mono (Kp.size K); (try (have ho := ho.keep hKq)); (try (have hr := hr.keep hKq)); have hzq := hKq.size; have K := K.trans hKq)
      | (go_at_call 53; refine (ccopy_any T.c A m _ (HSL.out.keep K) hn).mono ?_; rintro e wo ⟨A2, m2, rfl, ho, hKo⟩; have hlo := own_lt ho; have ho := ho.mono (Kp.size K); (try (have hq := hq.keep hKo)); (try (have hr := hr.keep hKo)); have hzo := hKo.size; have K := K.trans hKo)
      | (go_at_call 58; refine (hclone_any mp T.l _ (HX.out.mr.keep K)).mono ?_; rintro e wm ⟨mp2, rfl, hr0, hr, hKm⟩; have hr1 := hr.lt; (try (have hq := hq.keep hKm)); (try (have ho := ho.keep hKm)); have hzm := hKm.size; have K := K.trans hKm))
  all_goals
    have hdr : W.drew.heap.size = W.heap.size := rfl
    have HF := Lib.hid (TCopyP.mk (T := T) (w := W) hq ho hr (by omega) HX.out.pm (fun e => by have := hlq _ e; omega) (fun a e => ⟨fun z => by have := hlq _ z; have := hlo a e; omega, by have := hlo a e; omega⟩) K HX.out.u HX.out.wf HX.out.n)
    clear hlq hlo hzq hzo hzm hr0 hr1 hq ho hr hdr
    unfold tbC at HF
    go_wp2_with fail
    go_ret
    exact HF.out
end Go.Proofs.YtffckpkikdlbpaaGreatDoor

namespace Go.Proofs.YtffckpkikdlbpaaGreatDoor
open Go.RowKit
theorem pi_beq (p q : PI) : ((p.a : Int) == (q.a : Int) && p.l == q.l) = decide (p = q) := by
  rw [Bool.eq_iff_iff]
  simp only [Bool.and_eq_true, beq_iff_eq, decide_eq_true_eq]
  exact ⟨fun h => PI.ext' (by omega) h.2, fun h => by subst h; exact ⟨rfl, rfl⟩⟩
theorem seven {k : Nat} (h : k < 7) : k = 0 ∨ k = 1 ∨ k = 2 ∨ k = 3 ∨ k = 4 ∨ k = 5 ∨ k = 6 := by omega
end Go.Proofs.YtffckpkikdlbpaaGreatDoor

namespace Go.Proofs.YtffckpkikdlbpaaGreatDoor
open Go.RowKit
instance : DecidableEq Rt := fun a b => decidable_of_iff (a.p = b.p ∧ a.s = b.s ∧ a.m = b.m ∧ a.l = b.l ∧ a.f = b.f ∧ a.x = b.x ∧ a.d = b.d ∧ a.c = b.c) (by cases a; cases b; simp only [Rt.mk.injEq])
theorem rt_dec (r q : Rt) : decide (r = q) = (((r.p.a : Int) == q.p.a && r.p.l == q.p.l) && (r.s == q.s && (r.m == q.m && (r.l == q.l && (r.f == q.f && ((r.x : Int) == q.x && (r.d == q.d && r.c == q.c))))))) := by
  rw [pi_beq, Bool.eq_iff_iff]
  simp only [Bool.and_eq_true, beq_iff_eq, decide_eq_true_eq]
  constructor
  · rintro rfl
    exact ⟨rfl, rfl, rfl, rfl, rfl, rfl, rfl, rfl⟩
  · rintro ⟨h0, h1, h2, h3, h4, h5, h6, h7⟩
    cases r
    cases q
    simp only at h0 h1 h2 h3 h4 h5 h6 h7
    subst h0 h1 h2 h3 h4 h6 h7
    congr
    omega
set_option maxRecDepth 100000 in
theorem rt_neq (r q : Rt) (w : World) : (binOp .neq 48 (.agg #[.int .u32 r.p.a, .int .i64 r.p.l, .int .i64 r.s, .int .i64 r.m, .int .i64 r.l, .int .i64 r.f, .int .u32 r.x, .int .i64 r.d, .bool r.c]) (.agg #[.int .u32 q.p.a, .int .i64 q.p.l, .int .i64 q.s, .int .i64 q.m, .int .i64 q.l, .int .i64 q.f, .int .u32 q.x, .int .i64 q.d, .bool q.c])).run Tryz.prog w = .ok (.bool (!decide (r = q))) w := by
  rw [run_neq_struct, run_equalIn_agg w 9999 _ _ _ Tryz.underlying48 (by kernel_rfl), rt_dec]
  simp [Op.eqFields, part, go_sem, Tryz.underlying3, Tryz.underlying2, Tryz.underlying27, Tryz.underlying4, Tryz.underlying46]
  repeat (split; rotate_left; · simp [*])
  simp [*]
theorem take_eq_nextR {rs ss : List Rt} {k : Nat} (h1 : k < rs.length) (h2 : k < ss.length) (h : rs.take k = ss.take k) (e : rs[k] = ss[k]) : rs.take (k + 1) = ss.take (k + 1) := by
  rw [List.take_succ_eq_append_getElem h1, List.take_succ_eq_append_getElem h2, h, e]
set_option maxRecDepth 100000 in
set_option maxHeartbeats 4000000 in
theorem rroutesame_any (rs ss : List Rt) (A1 A2 : Option Addr) (c1 c2 : Nat) (w : World) (h1 : Rd w 9 Rt.enc A1 rs) (h2 : Rd w 9 Rt.enc A2 ss) (hl : rs.length ≤ 1000000) (hl2 : ss.length ≤ 1000000) :
    Calls Tryz.prog 64 #[.slice A1 rs.length c1, .slice A2 ss.length c2] w fun e w' => e = .returned (.bool (decide (rs = ss))) ∧ Kp w w' := by
  have H1 := Lib.hid h1
  have H2 := Lib.hid h2
  clear h1 h2
  by_cases hle : rs.length = ss.length
  · have hln : ((rs.length : Int) != (ss.length : Int)) = false := by simp [hle]
    have HLE := Lib.hid hle
    clear hle
    go_enter Tryz.func64, Tryz.ntmps64
    go_wp2_with fail
    go_loopw [5] (fun k wr => ∃ i : Nat, i ≤ rs.length ∧ k = .int .i64 i ∧ Hid (Kp w wr ∧ rs.take i = ss.take i)) (fun k _ => rs.length - (intOf k).toNat)
    case atStart => exact ⟨0, by omega, rfl, Lib.hid ⟨Kp.refl _, rfl⟩⟩
    case round =>
      obtain ⟨i, hi, rfl, K⟩ := hrel
      by_cases hlt : i < rs.length
      · have hlt2 : i < ss.length := by have := HLE.out; omega
        have hgi : (i : Int) < (rs.length : Int) := by omega
        have hgj : (i : Int) < (ss.length : Int) := by omega
        have hg0 : (0 : Int) ≤ (i : Int) := by omega
        obtain ⟨b, off, hA1, x0, x1, x2, x3, x4, x5, x6, x7, x8⟩ := rt9_at (H1.out.keep K.out.1) hlt
        obtain ⟨b', off', hA2, y0, y1, y2, y3, y4, y5, y6, y7, y8⟩ := rt9_at (H2.out.keep K.out.1) hlt2
        subst hA1
        subst hA2
        obtain ⟨r, hr⟩ : ∃ r, rs[i] = r := ⟨_, rfl⟩
        obtain ⟨q, hq⟩ : ∃ q, ss[i] = q := ⟨_, rfl⟩
        rw [hr] at x0 x1 x2 x3 x4 x5 x6 x7 x8
        rw [hq] at y0 y1 y2 y3 y4 y5 y6 y7 y8
        have HRR := Lib.hid hr
        have HQQ := Lib.hid hq
        have hne := rt_neq r q
        clear hr hq
        by_cases he : r = q
        · rw [decide_eq_true he] at hne
          have HN := Lib.hid (take_eq_nextR hlt hlt2 K.out.2 (by rw [HRR.out, HQQ.out, he]))
          clear he
          go_wp2_with fail
          go_quiet (fail)
          have KN : Hid (Kp w (wr.drewN nq)) := Lib.hid (K.out.1.drewN nq)
          clear x0 x1 x2 x3 x4 x5 x6 x7 x8 y0 y1 y2 y3 y4 y5 y6 y7 y8 hne
          go_wp2_with fail
          go_roundw
          case rel => exact ⟨i + 1, by omega, by go_num, Lib.hid ⟨KN.out, HN.out⟩⟩
          case measure => simp [intOf]; omega
        · rw [decide_eq_false he] at hne
          have HN := Lib.hid (show decide (rs = ss) = false from decide_eq_false (fun e => he (by rw [← HRR.out, ← HQQ.out]; subst e; rfl)))
          clear he
          go_wp2_with fail
          go_quiet (fail)
          have KN : Hid (Kp w (wr.drewN nq)) := Lib.hid (K.out.1.drewN nq)
          clear x0 x1 x2 x3 x4 x5 x6 x7 x8 y0 y1 y2 y3 y4 y5 y6 y7 y8 hne
          go_wp2_with fail
          go_ret
          exact ⟨by rw [HN.out] <;> rfl, KN.out⟩
      · obtain rfl : i = rs.length := by omega
        have HN := Lib.hid (show decide (rs = ss) = true from decide_eq_true (by
          have h1 := K.out.2
          rwa [List.take_length, HLE.out, List.take_length] at h1))
        go_wp2_with fail
        go_ret
        exact ⟨by rw [HN.out] <;> rfl, K.out.1⟩
  · have hln : ((rs.length : Int) != (ss.length : Int)) = true := by simp; omega
    have HN := Lib.hid (show decide (rs = ss) = false from decide_eq_false (fun e => hle (by rw [e])))
    clear hle
    go_enter Tryz.func64, Tryz.ntmps64
    go_wp2_with fail
    go_ret
    exact ⟨by rw [HN.out] <;> rfl, Kp.refl _⟩
end Go.Proofs.YtffckpkikdlbpaaGreatDoor

namespace Go.Proofs.YtffckpkikdlbpaaGreatDoor
open Go.RowKit
def backB (md : Region.Mode) (ops : Array Oper) : Bool :=
  (List.range ops.size).all fun i => match ops[i]? with | some o => o.after.all fun e => !Region.binds md e || decide (e.on < i) | none => true
theorem backB_at {md : Region.Mode} {ops : Array Oper} (h : backB md ops = true) {i : Nat} {o : Oper} (ho : ops[i]? = some o) : ∀ e ∈ o.after, Region.binds md e = true → e.on < i := by
  intro e he hb
  have hi := (Array.getElem?_eq_some_iff.1 ho).1
  have h1 := List.all_eq_true.1 h i (List.mem_range.2 hi)
  rw [ho] at h1
  simp only at h1
  have h2 := Array.all_eq_true_iff_forall_mem.1 h1 e he
  simpa [hb] using h2
section
variable {P : Program} {md : Region.Mode} {ops : Array Oper} {Q : Exit → Act → World → Prop}
theorem all_of_ready {listed : Array Bool} (hb : backB md ops = true) (hs : listed.size = ops.size) (hr : Region.ready md ops listed = []) : ∀ i, i < ops.size → listed.getD i false = true := by
  intro i
  induction i using Nat.strongRecOn with
  | _ i ih =>
    intro hi
    cases hl : listed.getD i false with
    | true => rfl
    | false =>
      have h1 : i ∈ Region.ready md ops listed := by
        refine mem_ready.2 ⟨?_, ops[i], Array.getElem?_eq_getElem hi, fun e he hbi => ?_⟩
        · have : i < listed.size := by omega
          simp only [Array.getD_eq_getD_getElem?, Array.getElem?_eq_getElem this, Option.getD_some] at hl ⊢
          exact hl
        · have h2 := backB_at hb (Array.getElem?_eq_getElem hi) e he hbi
          exact ih e.on h2 (by omega)
      rw [hr] at h1
      cases h1
theorem wpAny_inv (G : (Nat → Bool) → Act → World → Prop) (hb : backB md ops = true)
    (step : ∀ (i : Nat) (o : Oper) (L : Nat → Bool) (a : Act) (w : World), ops[i]? = some o → L i = false → (∀ e ∈ o.after, Region.binds md e = true → L e.on = true) → G L a w →
      ∀ K : Act → World → Prop, (∀ a' w', G (fun j => j == i || L j) a' w' → K a' w') → if Region.wanted o (yielded ops a.tmps) = true then Oper.wp P o a w K Q else K (a.put o.dst undef) w)
    (fin : ∀ L a w, (∀ i, i < ops.size → L i = true) → G L a w → Q .normal a w) :
    ∀ (fuel : Nat) (listed : Array Bool) (a : Act) (w : World), listed.size = ops.size → listed.toList.countP (fun b => !b) ≤ fuel → G (fun j => listed.getD j false) a w → wpAny P md ops Q fuel listed a w := by
  intro fuel
  induction fuel with
  | zero =>
    intro listed a w hs hc hG
    have hall : ∀ i, i < ops.size → listed.getD i false = true := by
      intro i hi
      have h0 := List.countP_eq_zero.1 (Nat.le_zero.1 hc)
      have hi' : i < listed.size := by omega
      have := h0 listed[i] (by rw [Array.mem_toList_iff]; exact Array.getElem_mem hi')
      simp only [Array.getD_eq_getD_getElem?, Array.getElem?_eq_getElem hi', Option.getD_some]
      simpa using this
    refine ⟨?_, fin _ _ _ hall hG⟩
    refine List.eq_nil_iff_forall_not_mem.2 fun j hj => ?_
    obtain ⟨h1, o, ho, _⟩ := mem_ready.1 hj
    have hlt := (Array.getElem?_eq_some_iff.1 ho).1
    have h2 := hall j hlt
    have hj' : j < listed.size := by omega
    simp only [Array.getD_eq_getD_getElem?, Array.getElem?_eq_getElem hj', Option.getD_some] at h1 h2
    rw [h1] at h2
    cases h2
  | succ fuel ih =>
    intro listed a w hs hc hG
    refine ⟨fun hr => fin _ _ _ (all_of_ready hb hs hr) hG, fun i hi => ?_⟩
    obtain ⟨h1, o, ho, hdep⟩ := mem_ready.1 hi
    have hlt := (Array.getElem?_eq_some_iff.1 ho).1
    have hi' : i < listed.size := by omega
    have hli : listed[i] = false := by
      simpa only [Array.getD_eq_getD_getElem?, Array.getElem?_eq_getElem hi', Option.getD_some] using h1
    have hLi : (fun j => listed.getD j false) i = false := by
      simp only [Array.getD_eq_getD_getElem?, Array.getElem?_eq_getElem hi', Option.getD_some]; exact hli
    refine wpOp_step ho (fun K hK => step i o _ a w ho hLi hdep hG K (fun a' w' hG' => hK a' w' (ih _ a' w' (by simpa using hs) ?_ ?_)))
    · have hset : (listed.setIfInBounds i true).toList = listed.toList.set i true := by simp
      have hl2 : i < listed.toList.length := by simpa using hi'
      rw [hset, List.countP_set hl2]
      have : listed.toList[i] = false := by simpa using hli
      rw [this]
      have hpos : 0 < listed.toList.countP (fun b => !b) := List.countP_pos_iff.2 ⟨false, by rw [← this]; exact List.getElem_mem hl2, rfl⟩
      have hc2 := hc
      simp only [Bool.not_false, if_true, Bool.not_true]
      rw [if_neg (by simp)]
      omega
    · have e : (fun j => (listed.setIfInBounds i true).getD j false) = (fun j => j == i || listed.getD j false) := by
        funext j
        by_cases hj : j = i
        · subst hj
          simp [Array.getD_eq_getD_getElem?, hi']
        · have : (j == i) = false := by simpa using hj
          rw [this, Bool.false_or]
          simp only [Array.getD_eq_getD_getElem?]
          rw [Array.getElem?_setIfInBounds_ne (fun h => hj h.symm)]
      rw [e]
      exact hG'
end
theorem wp_region_inv {P : Program} {id : Nat} {Q : Exit → Act → World → Prop} {a : Act} {w : World} {l : List Oper} (hm : P.follows .mixedOrders = true) (G : (Nat → Bool) → Act → World → Prop) (hb : backB .any l.toArray = true)
    (step : ∀ (i : Nat) (o : Oper) (L : Nat → Bool) (a : Act) (w : World), l[i]? = some o → L i = false → (∀ e ∈ o.after, Region.binds .any e = true → L e.on = true) → G L a w →
      ∀ K : Act → World → Prop, (∀ a' w', G (fun j => j == i || L j) a' w' → K a' w') → if Region.wanted o (yielded l.toArray a.tmps) = true then Oper.wp P o a w K Q else K (a.put o.dst undef) w)
    (fin : ∀ L a w, (∀ i, i < l.length → L i = true) → G L a w → Q .normal a w) (h0 : G (fun _ => false) a w.drew) : (Code.region id l.toArray true).wp P Q a w := by
  refine wp_region_any hm (wpAny_inv G hb (fun i o L a w ho => step i o L a w (by simpa using ho)) (fun L a w h => fin L a w (by simpa using h)) _ _ _ _ (by simp) ?_ ?_)
  · have : (Array.replicate l.toArray.size false).toList.countP (fun b => !b) ≤ (Array.replicate l.toArray.size false).toList.length := List.countP_le_length
    simpa using this
  · have e : (fun j => (Array.replicate l.toArray.size false).getD j false) = (fun _ => false) := by
      funext j
      simp only [Array.getD_eq_getD_getElem?]
      by_cases hj : j < l.toArray.size
      · rw [Array.getElem?_eq_getElem (by simpa using hj)]; simp
      · rw [Array.getElem?_eq_none (by simpa using hj)]; rfl
    rw [e]
    exact h0
end Go.Proofs.YtffckpkikdlbpaaGreatDoor
