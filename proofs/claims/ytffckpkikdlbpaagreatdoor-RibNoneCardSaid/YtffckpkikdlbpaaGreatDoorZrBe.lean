/- Lemmas and contracts for the theorem of this claim: RbW, RbX, RbY. -/
import Derived.Test.YtffckpkikdlbpaaGreatDoorZrBd
import Derived.StillTailTactics
set_option linter.unusedSimpArgs false
set_option linter.unusedVariables false
namespace Go.Proofs.YtffckpkikdlbpaaGreatDoor
open Go.RowKit Go.Maps
/-- A table in memory whose timer of one prefix is whatever it is. -/
structure TabZ (p : PI) (w : World) (B t q mp m : Nat) (A : Option Addr) (QF : List Nat) (l : List Tw) (T : Tb) : Prop where
  bk : Blk w t 107 (tbC q T A m mp)
  qs : QuS w B q QF l
  pm : (offP p l).Perm (offP p (armL T.l))
  ln : l.length ≤ 900000
  mr : MapR w mp T.l
  ow : Own w B 29 2 PI.enc (.slice A T.c.own.length m) T.c.own
  tq : t ∉ QF
  mq : mp ∉ QF
  mt : mp ≠ t
  an : ∀ a, A = some a → a.block ∉ QF ∧ a.block ≠ t ∧ a.block ≠ mp
  bt : B ≤ t
  bm : B ≤ mp
  u : UpR T.l
  wf : ∀ r ∈ T.l, wfP r.p
  n : T.l.length ≤ 900000
theorem TabZ.lo {p : PI} {w : World} {B t q mp m : Nat} {A : Option Addr} {QF : List Nat} {l : List Tw} {T : Tb} (h : TabZ p w B t q mp m A QF l T) : ∀ b ∈ t :: mp :: QF, B ≤ b ∧ b < w.heap.size := by
  intro b hb
  rcases List.mem_cons.1 hb with rfl | hb
  · exact ⟨h.bt, h.bk.lt⟩
  · rcases List.mem_cons.1 hb with rfl | hb
    · exact ⟨h.bm, h.mr.lt⟩
    · exact h.qs.lo b hb
theorem TabZ.only {p : PI} {w w' : World} {B t q mp m : Nat} {A : Option Addr} {QF bs : List Nat} {l : List Tw} {T : Tb} (h : TabZ p w B t q mp m A QF l T) (k : Only bs w w') (hb : ∀ b ∈ bs, b ∉ t :: mp :: QF) (hA : ∀ a, A = some a → a.block ∉ bs) : TabZ p w' B t q mp m A QF l T where
  bk := h.bk.only k (fun e => hb t e List.mem_cons_self)
  qs := h.qs.only k (fun b e z => hb b z (by simp [e]))
  pm := h.pm
  ln := h.ln
  mr := h.mr.only k (fun e => hb mp e (by simp))
  ow := own_only h.ow k hA
  tq := h.tq
  mq := h.mq
  mt := h.mt
  an := h.an
  bt := h.bt
  bm := h.bm
  u := h.u
  wf := h.wf
  n := h.n
theorem TabZ.keep {p : PI} {w w' : World} {B t q mp m : Nat} {A : Option Addr} {QF : List Nat} {l : List Tw} {T : Tb} (h : TabZ p w B t q mp m A QF l T) (k : Kp w w') : TabZ p w' B t q mp m A QF l T :=
  h.only (bs := []) (Only.of_kp k) (by simp) (by simp)
theorem offP_twice (p : PI) (l : List Tw) : offP p (offP p l) = offP p l := by
  unfold offP
  rw [List.filter_filter]
  simp
/-- A route laid while its timer is whatever it is. -/
def PutZ (w w' : World) (B t q mp m : Nat) (A : Option Addr) (QF : List Nat) (T : Tb) : Prop := ∃ QF' l', TabX w' B t q mp m A QF' l' T ∧ Only (t :: mp :: QF) w w' ∧ ∀ b ∈ QF', b ∈ QF ∨ w.heap.size ≤ b
set_option maxRecDepth 100000 in
set_option maxHeartbeats 4000000 in
theorem put_z (B t g : Nat) (T : Tb) (r : Rt) (w : World) (q mp m : Nat) (A : Option Addr) (QF : List Nat) (l : List Tw) (X : TabZ r.p w B t q mp m A QF l T) (hg : Blk w g 48 (roC r)) (hr : okR r = true) (ha : r.p.a < 4294967296) (hn : T.l.length < 800000) :
    Calls Tryz.prog 55 #[.pointer (some ⟨t, 0, none⟩), .slice (some ⟨g, 0, none⟩) 1 1] w fun e w' => e = .returned (.tuple #[]) ∧ PutZ w w' B t q mp m A QF ⟨T.c, setR r T.l, T.now, T.rf⟩ := by
  have hwr := ok_wfP hr ha
  have hr' := (okR_iff r).1 hr
  have ss := stateB_s hr'.2
  obtain ⟨b, hb⟩ : ∃ b, w.heap.size = b := ⟨_, rfl⟩
  obtain ⟨W, hW, kW, B0⟩ : ∃ W, w.alloc (.cells (roC r) 48) = W ∧ Kp w W ∧ Blk W b 48 (roC r) := ⟨_, rfl, (Kp.refl _).alloc _, by rw [← hb]; exact Blk.new w _ _⟩
  have X1 := X.keep kW
  unfold roC at hW
  have x0 : w.cell? ⟨g, 0, none⟩ = some (.int .u32 (r.p.a : Int)) := hg.cell 0
  have x1 : w.cell? ⟨g, 1, none⟩ = some (.int .i64 r.p.l) := hg.cell 1
  have x2 : w.cell? ⟨g, 2, none⟩ = some (.int .i64 r.s) := hg.cell 2
  have x3 : w.cell? ⟨g, 3, none⟩ = some (.int .i64 r.m) := hg.cell 3
  have x4 : w.cell? ⟨g, 4, none⟩ = some (.int .i64 r.l) := hg.cell 4
  have x5 : w.cell? ⟨g, 5, none⟩ = some (.int .i64 r.f) := hg.cell 5
  have x6 : w.cell? ⟨g, 6, none⟩ = some (.int .u32 (r.x : Int)) := hg.cell 6
  have x7 : w.cell? ⟨g, 7, none⟩ = some (.int .i64 r.d) := hg.cell 7
  have x8 : w.cell? ⟨g, 8, none⟩ = some (.bool r.c) := hg.cell 8
  have p0 : W.cell? ⟨b, 0, none⟩ = some (.int .u32 (r.p.a : Int)) := B0.cell 0
  have p1 : W.cell? ⟨b, 1, none⟩ = some (.int .i64 r.p.l) := B0.cell 1
  have p2 : W.cell? ⟨b, 2, none⟩ = some (.int .i64 r.s) := B0.cell 2
  have p3 : W.cell? ⟨b, 3, none⟩ = some (.int .i64 r.m) := B0.cell 3
  have p4 : W.cell? ⟨b, 4, none⟩ = some (.int .i64 r.l) := B0.cell 4
  have p5 : W.cell? ⟨b, 5, none⟩ = some (.int .i64 r.f) := B0.cell 5
  have p6 : W.cell? ⟨b, 6, none⟩ = some (.int .u32 (r.x : Int)) := B0.cell 6
  have p7 : W.cell? ⟨b, 7, none⟩ = some (.int .i64 r.d) := B0.cell 7
  have p8 : W.cell? ⟨b, 8, none⟩ = some (.bool r.c) := B0.cell 8
  have c0 : W.cell? ⟨t, 0, none⟩ = some (.pointer (some ⟨q, 0, none⟩)) := X1.bk.cell 0
  have hll := X.ln
  have hbF : b ∉ QF := fun e => by have := (X.qs.lo b e).2; omega
  have hbt : ¬ b = t := by have := X.bk.lt; omega
  have hbm : ¬ b = mp := by have := X.mr.lt; omega
  have K : Kp W W.drew := (Kp.refl W).drew
  have HX := Lib.hid X
  have HX1 := Lib.hid X1
  have HS := Lib.hid ss
  clear X X1 ss
  go_enter Tryz.func55, Tryz.ntmps55
  go_wp2_with fail
  refine wp_loop_rounds 2 ?_
  rw [rounds_succ]
  go_wp2_with fail
  try clear hW
  clear x0 x1 x2 x3 x4 x5 x6 x7 x8
  go_region_held3 (fun w' => w'.cell? ⟨t, 0, none⟩ = some (.pointer (some ⟨q, 0, none⟩)) ∧ w'.cell? ⟨b, 0, none⟩ = some (.int .u32 (r.p.a : Int)) ∧ w'.cell? ⟨b, 1, none⟩ = some (.int .i64 r.p.l) ∧ w'.cell? ⟨b, 2, none⟩ = some (.int .i64 r.s) ∧ w'.cell? ⟨b, 3, none⟩ = some (.int .i64 r.m) ∧ w'.cell? ⟨b, 4, none⟩ = some (.int .i64 r.l) ∧ w'.cell? ⟨b, 5, none⟩ = some (.int .i64 r.f) ∧ w'.cell? ⟨b, 6, none⟩ = some (.int .u32 (r.x : Int)) ∧ w'.cell? ⟨b, 7, none⟩ = some (.int .i64 r.d) ∧ w'.cell? ⟨b, 8, none⟩ = some (.bool r.c))
    (first | exact ⟨BT.cell 0, BA.cell 0, BA.cell 1, BA.cell 2, BA.cell 3, BA.cell 4, BA.cell 5, BA.cell 6, BA.cell 7, BA.cell 8⟩ | exact ⟨K.cell c0, K.cell p0, K.cell p1, K.cell p2, K.cell p3, K.cell p4, K.cell p5, K.cell p6, K.cell p7, K.cell p8⟩ | go_keep)
    (first | (go_at_call 99; refine (set_any B q QF l r _ (HX1.out.qs.keep K) hr ha hll).mono ?_; rintro e wv ⟨rfl, l', hp, QF', hQ1, hQ2, hQ3⟩; have BA := (B0.keep K).only hQ2 hbF; have BT := (HX1.out.bk.keep K).only hQ2 HX1.out.tq))
  clear p0 p1 p2 p3 p4 p5 p6 p7 p8 c0
  have kK := kW.trans K
  have X2 := HX.out.keep kK
  have M2 := X2.mr.only hQ2 X2.mq
  have O2 := own_only X2.ow hQ2 (fun a e => (X2.an a e).1)
  have hO := (Only.of_kp (bs := QF) kK).trans hQ2
  have hpm : l'.Perm (armL (setR r T.l)) := hp.trans ((HX.out.pm.append_left _).trans (armL_set r T.l).symm)
  have hnew : ∀ x ∈ QF', x ∈ QF ∨ w.heap.size ≤ x := fun x hx => (hQ3 x hx).imp id (fun z => Nat.le_trans kK.size z)
  have htn : t ∉ QF' := fun e => (hnew t e).elim HX.out.tq (fun z => by have := HX.out.bk.lt; omega)
  have hmn : mp ∉ QF' := fun e => (hnew mp e).elim HX.out.mq (fun z => by have := HX.out.mr.lt; omega)
  have han : ∀ a, A = some a → a.block ∉ QF' := fun a e z => (hnew _ z).elim (HX.out.an a e).1 (fun z => by have := (own_lt HX.out.ow a e).2; omega)
  have hln : (setR r T.l).length ≤ 900000 := by
    have h1 := (setR_perm r T.l).length_eq
    have h2 : (offR r.p T.l).length ≤ T.l.length := List.length_filter_le _ _
    rw [List.length_append] at h1
    have : (if r.s = 0 then [] else [r]).length ≤ 1 := by split <;> simp
    omega
  have hwn : ∀ x ∈ setR r T.l, wfP x.p := fun x hx => by
    rcases mem_setR.1 hx with ⟨rfl, _⟩ | ⟨hx, _⟩
    · exact hwr
    · exact HX.out.wf x hx
  obtain ⟨es, hD, hes⟩ := M2
  have hfin : ∀ W1, (Only [mp] wv W1) → MapR W1 mp (setR r T.l) → PutZ w W1 B t q mp m A QF ⟨T.c, setR r T.l, T.now, T.rf⟩ := fun W1 k1 hM => by
    refine ⟨QF', l', ⟨BT.only k1 (by simpa using fun e => HX.out.mt e.symm), hQ1.only k1 (fun x hx => by simp only [List.mem_cons, List.not_mem_nil, or_false]; rintro rfl; exact hmn hx), hpm, hM, own_only O2 k1 (fun a e => by simpa using (HX.out.an a e).2.2), htn, hmn, HX.out.mt, fun a e => ⟨han a e, (HX.out.an a e).2⟩, HX.out.bt, HX.out.bm, setR_up r HX.out.u, hwn, hln⟩, ?_, hnew⟩
    · refine ⟨k1.os.trans hO.os, k1.tape.trans hO.tape, k1.output.trans hO.output, Nat.le_trans hO.size k1.size, fun i hi hni => ?_⟩
      simp only [List.mem_cons, not_or] at hni
      rw [k1.block i (Nat.lt_of_lt_of_le hi hO.size) (by simpa using hni.2.1), hO.block i hi hni.2.2]
  have HF := Lib.hid hfin
  have hwf := HX.out.wf
  clear hfin hp hpm hnew htn hmn han hln hwn HX1
  have p0 : wv.cell? ⟨b, 0, none⟩ = some (.int .u32 (r.p.a : Int)) := BA.cell 0
  have p1 : wv.cell? ⟨b, 1, none⟩ = some (.int .i64 r.p.l) := BA.cell 1
  have p2 : wv.cell? ⟨b, 2, none⟩ = some (.int .i64 r.s) := BA.cell 2
  have p3 : wv.cell? ⟨b, 3, none⟩ = some (.int .i64 r.m) := BA.cell 3
  have p4 : wv.cell? ⟨b, 4, none⟩ = some (.int .i64 r.l) := BA.cell 4
  have p5 : wv.cell? ⟨b, 5, none⟩ = some (.int .i64 r.f) := BA.cell 5
  have p6 : wv.cell? ⟨b, 6, none⟩ = some (.int .u32 (r.x : Int)) := BA.cell 6
  have p7 : wv.cell? ⟨b, 7, none⟩ = some (.int .i64 r.d) := BA.cell 7
  have p8 : wv.cell? ⟨b, 8, none⟩ = some (.bool r.c) := BA.cell 8
  have c10 : wv.cell? ⟨t, 10, none⟩ = some (.map (some mp)) := BT.cell 10
  by_cases h0 : r.s = 0
  · have e0 := beqT h0
    have hoff : (offR r.p T.l).Perm (setR r T.l) := by have := (setR_perm r T.l).symm; rw [if_pos h0] at this; exact this
    have HO := Lib.hid hoff
    clear h0 hoff hO O2 X2
    go_upto_region 5 with (fail)
    go_still_tail 6, (by kernel_rfl)
    change wpList _ _ _ _ _ wv.drew
    refine wpList_delete_own wv.drew rfl _ _ 105 29 rfl 87 keyedPf Tryz.underlying105 rdAll mp T.l.length (.map es) rfl (ownR_lie hD rfl) (pfV r.p) (pfKey r.p) rfl (keyOf_p hwr) ?_
    intro W1 hD1 hT1
    have M1 := (MapR.del_ hes hwf hwr hD1).perm HO.out
    have H := Lib.hid (HF.out W1 ((Only.refl [mp] wv).drew.trans (Only.of_turned hT1)) M1)
    clear hD1 hT1 p0 p1 p2 p3 p4 p5 p6 p7 p8 c10 M1
    go_wp2_with fail
    rw [rounds_succ]
    go_wp2_with fail
    go_end0
    exact ⟨rfl, H.out⟩
  · have e0 := beqF h0
    have hset : (r :: offR r.p T.l).Perm (setR r T.l) := by have := (setR_perm r T.l).symm; rw [if_neg h0] at this; exact this
    have HO := Lib.hid hset
    clear h0 hset hO O2 X2
    go_upto_region 6 with (fail)
    go_still_tail 8, (by kernel_rfl)
    change wpList _ _ _ _ _ wv.drew
    refine wpList_mapUpdate_in wv.drew rfl _ _ _ 105 rfl 29 87 keyedPf Tryz.underlying105 rdAll mp T.l.length (.map es) rfl (ownR_lie hD rfl) (by simp only [maxLen]; omega) (pfV r.p) (roV r) (pfKey r.p) rfl rfl (keyOf_p hwr) (.held (roV r)) [] rfl ?_
    intro W1 hD1 hT1
    have M1 := (MapR.put_ hes hwf hwr hD1).perm HO.out
    have H := Lib.hid (HF.out W1 ((Only.refl [mp] wv).drew.trans (Only.of_turned hT1)) M1)
    clear hD1 hT1 p0 p1 p2 p3 p4 p5 p6 p7 p8 c10 M1
    go_wp2_with fail
    rw [rounds_succ]
    go_wp2_with fail
    go_end0
    exact ⟨rfl, H.out⟩
end Go.Proofs.YtffckpkikdlbpaaGreatDoor

namespace Go.Proofs.YtffckpkikdlbpaaGreatDoor
open Go.RowKit Go.Maps
set_option maxRecDepth 100000 in
set_option maxHeartbeats 1000000 in
theorem due_no (B q : Nat) (F : List Nat) (l : List Tw) (now : Int) (w : World) (S : QuS w B q F l) (hd : ∀ y ∈ l, now < y.d) : Calls Tryz.prog 71 #[.agg #[.pointer (some ⟨q, 0, none⟩)], .int .i64 now] w fun e w' => e = .returned (.tuple #[.agg #[.int .u32 0, .int .i64 0], .bool false]) ∧ Kp w w' := by
  obtain ⟨b, hb⟩ : ∃ b, w.heap.size = b := ⟨_, rfl⟩
  obtain ⟨W, hW, kW, B0, B1⟩ : ∃ W, (w.alloc (.cells #[.pointer (some ⟨q, 0, none⟩)] 103)).alloc (.cells #[.int .u32 0, .int .i64 0] 29) = W ∧ Kp w W ∧ Blk W b 103 #[.pointer (some ⟨q, 0, none⟩)] ∧ Blk W (b + 1) 29 #[.int .u32 0, .int .i64 0] := ⟨_, rfl, ((Kp.refl _).alloc _).alloc _, by rw [← hb]; exact (Blk.new w _ _).alloc _, by rw [← hb]; exact Blk.new1 w _ _ _⟩
  have c0 : W.cell? ⟨b, 0, none⟩ = some (.pointer (some ⟨q, 0, none⟩)) := B0.cell 0
  have hlt := B1.lt
  have HD := Lib.hid hd
  clear hd
  go_enter Tryz.func71, Tryz.ntmps71
  go_wp2_with fail
  refine (qPop_S0 B q F l now _ (S.keep kW) HD.out).mono ?_
  rintro e w1 ⟨rfl, K1⟩
  obtain ⟨g, hg⟩ : ∃ g, w1.heap.size = g := ⟨_, rfl⟩
  have D1 := B1.keep K1
  have hg1 := D1.lt
  obtain ⟨V0, hV0, kV0, E10, E20⟩ : ∃ V, w1.alloc (.cells #[.int .i64 0, .int .u32 0, .int .i64 0] 158) = V ∧ Kp w V ∧ Blk V (b + 1) 29 #[.int .u32 0, .int .i64 0] ∧ Blk V g 158 #[.int .i64 0, .int .u32 0, .int .i64 0] := ⟨_, rfl, (kW.trans K1).alloc _, D1.alloc _, by rw [← hg]; exact Blk.new _ _ _⟩
  have hwg : w.heap.size ≤ g := by rw [← hg]; exact (kW.trans K1).size
  have s0 : V0.cell? ⟨g, 0, none⟩ = some (.int .i64 0) := E20.cell 0
  have s1 : V0.cell? ⟨g, 1, none⟩ = some (.int .u32 0) := E20.cell 1
  have s2 : V0.cell? ⟨g, 2, none⟩ = some (.int .i64 0) := E20.cell 2
  have t0 := E20.frozen 0
  have t1 := E20.frozen 1
  have t2 := E20.frozen 2
  obtain ⟨V, hV, kV, E1, E2⟩ : ∃ V, ((V0.setCell ⟨g, 0, none⟩ (.int .i64 0)).setCell ⟨g, 1, none⟩ (.int .u32 0)).setCell ⟨g, 2, none⟩ (.int .i64 0) = V ∧ Kp w V ∧ Blk V (b + 1) 29 #[.int .u32 0, .int .i64 0] ∧ Blk V g 158 #[.int .i64 0, .int .u32 0, .int .i64 0] := ⟨_, rfl, ((kV0.setCell (p := ⟨g, 0, none⟩) hwg _).setCell (p := ⟨g, 1, none⟩) hwg _).setCell (p := ⟨g, 2, none⟩) hwg _, ((E10.far (p := ⟨g, 0, none⟩) (by show b + 1 ≠ g; omega) _).far (p := ⟨g, 1, none⟩) (by show b + 1 ≠ g; omega) _).far (p := ⟨g, 2, none⟩) (by show b + 1 ≠ g; omega) _, by have H := ((E20.set_ 0 (.int .i64 0)).set_ 1 (.int .u32 0)).set_ 2 (.int .i64 0); simp only [List.setIfInBounds_toArray, List.set_cons_zero, List.set_cons_succ] at H; exact H⟩
  have x0 : V.cell? ⟨b + 1, 0, none⟩ = some (.int .u32 0) := E1.cell 0
  have x1 : V.cell? ⟨b + 1, 1, none⟩ = some (.int .i64 0) := E1.cell 1
  have z0 := E1.frozen 0
  have z1 := E1.frozen 1
  have y0 : V.cell? ⟨g, 0, none⟩ = some (.int .i64 0) := E2.cell 0
  have y1 : V.cell? ⟨g, 1, none⟩ = some (.int .u32 0) := E2.cell 1
  have y2 : V.cell? ⟨g, 2, none⟩ = some (.int .i64 0) := E2.cell 2
  obtain ⟨R, hR, BR, kR⟩ : ∃ R, (V.setCell ⟨b + 1, 0, none⟩ (.int .u32 0)).setCell ⟨b + 1, 1, none⟩ (.int .i64 0) = R ∧ Blk R (b + 1) 29 #[.int .u32 0, .int .i64 0] ∧ Kp w R := ⟨_, rfl, by have H := (E1.set_ 0 (.int .u32 0)).set_ 1 (.int .i64 0); simp only [List.setIfInBounds_toArray, List.set_cons_zero, List.set_cons_succ] at H; exact H, (kV.setCell (p := ⟨b + 1, 0, none⟩) (by show w.heap.size ≤ b + 1; omega) _).setCell (p := ⟨b + 1, 1, none⟩) (by show w.heap.size ≤ b + 1; omega) _⟩
  have u0 : R.cell? ⟨b + 1, 0, none⟩ = some (.int .u32 0) := BR.cell 0
  have u1 : R.cell? ⟨b + 1, 1, none⟩ = some (.int .i64 0) := BR.cell 1
  clear c0 hW
  go_wp2_with fail
  exact ⟨rfl, .tuple #[.agg #[.int .u32 0, .int .i64 0], .bool false], by simp [results, Tryz.results71, go_sem, u0, u1], rfl, kR⟩
set_option maxRecDepth 100000 in
set_option maxHeartbeats 1000000 in
theorem due_yes (B q : Nat) (F : List Nat) (l : List Tw) (now : Int) (w : World) (S : QuS w B q F l) (hd : ∃ y ∈ l, y.d ≤ now) (hl : l.length ≤ 900000) : Calls Tryz.prog 71 #[.agg #[.pointer (some ⟨q, 0, none⟩)], .int .i64 now] w fun e w' => ∃ y ∈ l, (∀ z ∈ l, ltT z y = false) ∧ y.d ≤ now ∧ e = .returned (.tuple #[pfV y.p, .bool true]) ∧ ∃ l', l'.Perm (offP y.p l) ∧ QT w w' B q F l' := by
  obtain ⟨b, hb⟩ : ∃ b, w.heap.size = b := ⟨_, rfl⟩
  obtain ⟨W, hW, kW, B0, B1⟩ : ∃ W, (w.alloc (.cells #[.pointer (some ⟨q, 0, none⟩)] 103)).alloc (.cells #[.int .u32 0, .int .i64 0] 29) = W ∧ Kp w W ∧ Blk W b 103 #[.pointer (some ⟨q, 0, none⟩)] ∧ Blk W (b + 1) 29 #[.int .u32 0, .int .i64 0] := ⟨_, rfl, ((Kp.refl _).alloc _).alloc _, by rw [← hb]; exact (Blk.new w _ _).alloc _, by rw [← hb]; exact Blk.new1 w _ _ _⟩
  have c0 : W.cell? ⟨b, 0, none⟩ = some (.pointer (some ⟨q, 0, none⟩)) := B0.cell 0
  have hlt := B1.lt
  have HD := Lib.hid hd
  have hFb : ∀ x ∈ F, x < w.heap.size := fun x hx => (S.lo x hx).2
  have HFb := Lib.hid hFb
  clear hd hFb
  go_enter Tryz.func71, Tryz.ntmps71
  go_wp2_with fail
  refine (qPop_S B q F l now _ (S.keep kW) HD.out hl).mono ?_
  rintro e w1 ⟨y, hy, hle, hyd, rfl, l', hp, F', hQ, hO, hF'⟩
  have HLE := Lib.hid hle
  have HYD := Lib.hid hyd
  obtain ⟨g, hg⟩ : ∃ g, w1.heap.size = g := ⟨_, rfl⟩
  have hbF : b + 1 ∉ F := fun z => by have := HFb.out _ z; omega
  have D1 := B1.only hO hbF
  have hg1 := D1.lt
  have hO0 : Only F w w1 := (Only.of_kp kW).trans hO
  obtain ⟨V, hV, hOV, QV, E1, E2⟩ : ∃ V, w1.alloc (.cells #[.int .i64 y.k, .int .u32 (y.p.a : Int), .int .i64 y.p.l] 158) = V ∧ Only F w V ∧ QuS V B q F' l' ∧ Blk V (b + 1) 29 #[.int .u32 0, .int .i64 0] ∧ Blk V g 158 #[.int .i64 y.k, .int .u32 (y.p.a : Int), .int .i64 y.p.l] := ⟨_, rfl, hO0.alloc _, hQ.keep ((Kp.refl _).alloc _), D1.alloc _, by rw [← hg]; exact Blk.new _ _ _⟩
  have HF' := Lib.hid hF'
  have hkb : b + 1 ∉ F' := fun z => by
    rcases HF'.out _ z with k | k
    · exact hbF k
    · omega
  clear hle hyd hF'
  have x0 : V.cell? ⟨b + 1, 0, none⟩ = some (.int .u32 0) := E1.cell 0
  have x1 : V.cell? ⟨b + 1, 1, none⟩ = some (.int .i64 0) := E1.cell 1
  have z0 := E1.frozen 0
  have z1 := E1.frozen 1
  have y0 : V.cell? ⟨g, 0, none⟩ = some (.int .i64 y.k) := E2.cell 0
  have y1 : V.cell? ⟨g, 1, none⟩ = some (.int .u32 (y.p.a : Int)) := E2.cell 1
  have y2 : V.cell? ⟨g, 2, none⟩ = some (.int .i64 y.p.l) := E2.cell 2
  obtain ⟨R, hR, BR, hOR, QR⟩ : ∃ R, (V.setCell ⟨b + 1, 0, none⟩ (.int .u32 (y.p.a : Int))).setCell ⟨b + 1, 1, none⟩ (.int .i64 y.p.l) = R ∧ Blk R (b + 1) 29 #[.int .u32 (y.p.a : Int), .int .i64 y.p.l] ∧ Only F w R ∧ QuS R B q F' l' := ⟨_, rfl, by have H := (E1.set_ 0 (.int .u32 (y.p.a : Int))).set_ 1 (.int .i64 y.p.l); simp only [List.setIfInBounds_toArray, List.set_cons_zero, List.set_cons_succ] at H; exact H, (hOV.setCell (p := ⟨b + 1, 0, none⟩) (.inr (by show w.heap.size ≤ b + 1; omega)) _).setCell (p := ⟨b + 1, 1, none⟩) (.inr (by show w.heap.size ≤ b + 1; omega)) _, QV.only (((Only.refl [b + 1] V).setCell (p := ⟨b + 1, 0, none⟩) (.inl (by simp)) _).setCell (p := ⟨b + 1, 1, none⟩) (.inl (by simp)) _) (fun z hz k => by simp only [List.mem_cons, List.not_mem_nil, or_false] at k; subst k; exact hkb hz)⟩
  have u0 : R.cell? ⟨b + 1, 0, none⟩ = some (.int .u32 (y.p.a : Int)) := BR.cell 0
  have u1 : R.cell? ⟨b + 1, 1, none⟩ = some (.int .i64 y.p.l) := BR.cell 1
  clear c0 hW
  have hWs := kW.size
  go_wp2_with fail
  exact ⟨rfl, .tuple #[pfV y.p, .bool true], by simp [results, Tryz.results71, go_sem, u0, u1], y, hy, HLE.out, HYD.out, rfl, l', hp, F', QR, hOR, fun z hz => (HF'.out z hz).imp id (fun k => Nat.le_trans hWs k)⟩
end Go.Proofs.YtffckpkikdlbpaaGreatDoor

namespace Go.Proofs.YtffckpkikdlbpaaGreatDoor
open Go.RowKit Go.Maps
set_option maxRecDepth 100000 in
set_option maxHeartbeats 2000000 in
theorem hear_nil (p : PI) (h : Hd) (now : Int) (w : World) : Calls Tryz.prog 23 #[.pointer none, pfV p, .agg #[.int .i64 h.f, .int .u32 (h.a : Int), .int .i64 h.m], .int .i64 now] w fun e w' => e = .returned (.tuple #[roV zeroR, .int .i64 1]) ∧ Kp w w' := by
  obtain ⟨b, hb⟩ : ∃ b, w.heap.size = b := ⟨_, rfl⟩
  obtain ⟨W0, hW0, k0, B0⟩ : ∃ W, ((w.alloc (.cells #[.pointer none] 36)).alloc (.cells #[.int .u32 (p.a : Int), .int .i64 p.l] 29)).alloc (.cells #[.int .i64 h.f, .int .u32 (h.a : Int), .int .i64 h.m] 31) = W ∧ Kp w W ∧ Blk W b 36 #[.pointer none] := ⟨_, rfl, (((Kp.refl _).alloc _).alloc _).alloc _, by rw [← hb]; exact ((Blk.new w _ _).alloc _).alloc _⟩
  have hs0 : W0.heap.size = b + 1 + 1 + 1 := by rw [← hW0, ← hb]; simp
  obtain ⟨W, hW, kW, C0, C3, C4⟩ : ∃ W, (W0.alloc (.cells zero9 48)).alloc (.cells #[.int .i64 0] 53) = W ∧ Kp w W ∧ Blk W b 36 #[.pointer none] ∧ Blk W (b + 1 + 1 + 1) 48 zero9 ∧ Blk W (b + 1 + 1 + 1 + 1) 53 #[.int .i64 0] := ⟨_, rfl, (k0.alloc _).alloc _, (B0.alloc _).alloc _, by rw [← hs0]; exact (Blk.new _ _ _).alloc _, by rw [← hs0]; exact Blk.new1 _ _ _ _⟩
  unfold zero9 at hW
  have c0 : W.cell? ⟨b, 0, none⟩ = some (.pointer none) := C0.cell 0
  go_enter_defers Tryz.func23, Tryz.ntmps23
  go_wp2_with (first | (go_at_call 56; refine (none_nil _).mono ?_; rintro e w' ⟨rfl, hw'⟩; rw [hw']; clear hw' w') | (go_at_call 60; refine (must_no 1 (by decide) _).mono ?_; rintro e w' ⟨rfl, hw'⟩; rw [hw']; clear hw' w'))
  refine leaves_cons (f := 59) (args := #[.pointer (some ⟨b + 1 + 1 + 1, 0, none⟩), .pointer (some ⟨b + 1 + 1 + 1 + 1, 0, none⟩)]) (by simp) (by simp [go_sem]) ?_
  refine (catch_bhear (b + 1 + 1 + 1) (b + 1 + 1 + 1 + 1) _ _ _ _ _ _ _ _ _ _ 1 _ C3 C4 (by omega)).mono ?_
  rintro e u' wz ⟨rfl, rfl, Z3, Z4, hO⟩
  have q0 : wz.cell? ⟨b + 1 + 1 + 1, 0, none⟩ = some (.int .u32 0) := Z3.cell 0
  have q1 : wz.cell? ⟨b + 1 + 1 + 1, 1, none⟩ = some (.int .i64 0) := Z3.cell 1
  have q2 : wz.cell? ⟨b + 1 + 1 + 1, 2, none⟩ = some (.int .i64 0) := Z3.cell 2
  have q3 : wz.cell? ⟨b + 1 + 1 + 1, 3, none⟩ = some (.int .i64 0) := Z3.cell 3
  have q4 : wz.cell? ⟨b + 1 + 1 + 1, 4, none⟩ = some (.int .i64 0) := Z3.cell 4
  have q5 : wz.cell? ⟨b + 1 + 1 + 1, 5, none⟩ = some (.int .i64 0) := Z3.cell 5
  have q6 : wz.cell? ⟨b + 1 + 1 + 1, 6, none⟩ = some (.int .u32 0) := Z3.cell 6
  have q7 : wz.cell? ⟨b + 1 + 1 + 1, 7, none⟩ = some (.int .i64 0) := Z3.cell 7
  have q8 : wz.cell? ⟨b + 1 + 1 + 1, 8, none⟩ = some (.bool false) := Z3.cell 8
  have q9 : wz.cell? ⟨b + 1 + 1 + 1 + 1, 0, none⟩ = some (.int .i64 1) := Z4.cell 0
  show Leaves _ _ _ _ [] .returning _
  exact ⟨.tuple #[roV zeroR, .int .i64 1], by simp [results, Tryz.results23, go_sem, zeroR, noR, q0, q1, q2, q3, q4, q5, q6, q7, q8, q9], rfl, hO.kp kW (by simp; omega)⟩
set_option maxRecDepth 100000 in
set_option maxHeartbeats 2000000 in
theorem lose_nil_ (f now : Int) (w : World) : Calls Tryz.prog 26 #[.pointer none, .int .i64 f, .int .i64 now] w fun e w' => e = .returned (.tuple #[.int .i64 0, .int .i64 1]) ∧ Kp w w' := by
  obtain ⟨b, hb⟩ : ∃ b, w.heap.size = b := ⟨_, rfl⟩
  obtain ⟨W0, hW0, k0, B0⟩ : ∃ W, ((w.alloc (.cells #[.pointer none] 36)).alloc (.cells #[.int .i64 f] 3)).alloc (.cells #[.int .i64 now] 2) = W ∧ Kp w W ∧ Blk W b 36 #[.pointer none] := ⟨_, rfl, ((((Kp.refl _).alloc _).alloc _).alloc _), by rw [← hb]; exact (((Blk.new w _ _).alloc _).alloc _)⟩
  have hs0 : W0.heap.size = b + 1 + 1 + 1 := by rw [← hW0, ← hb]; simp
  obtain ⟨W, hW, kW, C0, C3, C4⟩ : ∃ W, (W0.alloc (.cells #[.int .i64 0] 3)).alloc (.cells #[.int .i64 0] 53) = W ∧ Kp w W ∧ Blk W b 36 #[.pointer none] ∧ Blk W (b + 1 + 1 + 1) 3 #[.int .i64 0] ∧ Blk W (b + 1 + 1 + 1 + 1) 53 #[.int .i64 0] := ⟨_, rfl, (k0.alloc _).alloc _, (B0.alloc _).alloc _, by rw [← hs0]; exact (Blk.new _ _ _).alloc _, by rw [← hs0]; exact Blk.new1 _ _ _ _⟩
  have c0 : W.cell? ⟨b, 0, none⟩ = some (.pointer none) := C0.cell 0
  go_enter_defers Tryz.func26, Tryz.ntmps26
  go_wp2_with (first | (go_at_call 56; refine (none_nil _).mono ?_; rintro e w' ⟨rfl, hw'⟩; rw [hw']; clear hw' w') | (go_at_call 60; refine (must_no 1 (by decide) _).mono ?_; rintro e w' ⟨rfl, hw'⟩; rw [hw']; clear hw' w'))
  refine leaves_cons (f := 65) (args := #[.pointer (some ⟨b + 1 + 1 + 1, 0, none⟩), .pointer (some ⟨b + 1 + 1 + 1 + 1, 0, none⟩)]) (by simp) (by simp [go_sem]) ?_
  refine (catch_blose (b + 1 + 1 + 1) (b + 1 + 1 + 1 + 1) _ _ 1 _ C3 C4 (by omega)).mono ?_
  rintro e u' wz ⟨rfl, rfl, Z3, Z4, hO⟩
  have q0 : wz.cell? ⟨b + 1 + 1 + 1, 0, none⟩ = some (.int .i64 0) := Z3.cell 0
  have q9 : wz.cell? ⟨b + 1 + 1 + 1 + 1, 0, none⟩ = some (.int .i64 1) := Z4.cell 0
  show Leaves _ _ _ _ [] .returning _
  exact ⟨.tuple #[.int .i64 0, .int .i64 1], by simp [results, Tryz.results26, go_sem, q0, q9], rfl, hO.kp kW (by simp; omega)⟩
set_option maxRecDepth 100000 in
set_option maxHeartbeats 2000000 in
theorem exp_nil_ (now : Int) (w : World) : Calls Tryz.prog 27 #[.pointer none, .int .i64 now] w fun e w' => e = .returned (.tuple #[.int .i64 0, .int .i64 1]) ∧ Kp w w' := by
  obtain ⟨b, hb⟩ : ∃ b, w.heap.size = b := ⟨_, rfl⟩
  obtain ⟨W0, hW0, k0, B0⟩ : ∃ W, (w.alloc (.cells #[.pointer none] 36)).alloc (.cells #[.int .i64 now] 2) = W ∧ Kp w W ∧ Blk W b 36 #[.pointer none] := ⟨_, rfl, (((Kp.refl _).alloc _).alloc _), by rw [← hb]; exact ((Blk.new w _ _).alloc _)⟩
  have hs0 : W0.heap.size = b + 1 + 1 := by rw [← hW0, ← hb]; simp
  obtain ⟨W, hW, kW, C0, C3, C4⟩ : ∃ W, (W0.alloc (.cells #[.int .i64 0] 3)).alloc (.cells #[.int .i64 0] 53) = W ∧ Kp w W ∧ Blk W b 36 #[.pointer none] ∧ Blk W (b + 1 + 1) 3 #[.int .i64 0] ∧ Blk W (b + 1 + 1 + 1) 53 #[.int .i64 0] := ⟨_, rfl, (k0.alloc _).alloc _, (B0.alloc _).alloc _, by rw [← hs0]; exact (Blk.new _ _ _).alloc _, by rw [← hs0]; exact Blk.new1 _ _ _ _⟩
  have c0 : W.cell? ⟨b, 0, none⟩ = some (.pointer none) := C0.cell 0
  go_enter_defers Tryz.func27, Tryz.ntmps27
  go_wp2_with (first | (go_at_call 56; refine (none_nil _).mono ?_; rintro e w' ⟨rfl, hw'⟩; rw [hw']; clear hw' w') | (go_at_call 60; refine (must_no 1 (by decide) _).mono ?_; rintro e w' ⟨rfl, hw'⟩; rw [hw']; clear hw' w'))
  refine leaves_cons (f := 69) (args := #[.pointer (some ⟨b + 1 + 1, 0, none⟩), .pointer (some ⟨b + 1 + 1 + 1, 0, none⟩)]) (by simp) (by simp [go_sem]) ?_
  refine (catch_bexp (b + 1 + 1) (b + 1 + 1 + 1) _ _ 1 _ C3 C4 (by omega)).mono ?_
  rintro e u' wz ⟨rfl, rfl, Z3, Z4, hO⟩
  have q0 : wz.cell? ⟨b + 1 + 1, 0, none⟩ = some (.int .i64 0) := Z3.cell 0
  have q9 : wz.cell? ⟨b + 1 + 1 + 1, 0, none⟩ = some (.int .i64 1) := Z4.cell 0
  show Leaves _ _ _ _ [] .returning _
  exact ⟨.tuple #[.int .i64 0, .int .i64 1], by simp [results, Tryz.results27, go_sem, q0, q9], rfl, hO.kp kW (by simp; omega)⟩
set_option maxRecDepth 100000 in
theorem copy_nil_ (w : World) : Calls Tryz.prog 19 #[.pointer none] w fun e w' => e = .returned (.pointer none) ∧ w' = w := by
  go_enter Tryz.func19, Tryz.ntmps19
  go_wp2_with (first | (go_at_call 56; refine (none_nil _).mono ?_; rintro e w' ⟨rfl, hw'⟩; rw [hw']; clear hw' w'))
  go_ret
  exact ⟨rfl, rfl⟩
set_option maxRecDepth 100000 in
theorem same_nil_ (w : World) : Calls Tryz.prog 34 #[.pointer none, .pointer none] w fun e w' => e = .returned (.bool true) ∧ w' = w := by
  go_enter Tryz.func34, Tryz.ntmps34
  go_wp2_with (first | (go_at_call 56; refine (none_nil _).mono ?_; rintro e w' ⟨rfl, hw'⟩; rw [hw']; clear hw' w'))
  go_ret
  exact ⟨rfl, rfl⟩
set_option maxRecDepth 100000 in
theorem sorted_nil_ (v : Value) (w : World) : Calls Tryz.prog 40 #[.pointer none, v] w fun e w' => e = .returned (.slice none 0 0) ∧ w' = w := by
  go_enter Tryz.func40, Tryz.ntmps40
  go_wp2_with (first | (go_at_call 56; refine (none_nil _).mono ?_; rintro e w' ⟨rfl, hw'⟩; rw [hw']; clear hw' w'))
  go_ret
  exact ⟨rfl, rfl⟩
end Go.Proofs.YtffckpkikdlbpaaGreatDoor
