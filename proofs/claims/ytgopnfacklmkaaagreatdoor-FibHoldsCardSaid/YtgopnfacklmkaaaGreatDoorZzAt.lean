/- Lemmas and contracts for the theorem of this claim: RbW, RbX, RxA, RxB, GoodL, VGen3. -/
import Derived.Test.YtgopnfacklmkaaaGreatDoorZzAs
import Derived.StillTailTactics
set_option linter.all false
set_option maxHeartbeats 16000000
namespace Go.Proofs.YtgopnfacklmkaaaGreatDoor
section
open Go.RowKit Go.Maps
structure TabZ (p : PI) (w : World) (B t q mp m : Nat) (A : Option Addr) (QF : List Nat) (l : List Tw) (T : Tb) : Prop where
 bk : Blk w t 125 (tbC q T A m mp)
 qs : QuS w B q QF l
 pm : (offP p l).Perm (offP p (armL T.l))
 ln : l.length ≤ 900000
 mr : MapR w mp T.l
 ow : Own w B 39 2 PI.enc (.slice A T.c.own.length m) T.c.own
 tq : t ∉ QF
 mq : mp ∉ QF
 mt : mp ≠ t
 an : ∀ a, A = some a → a.block ∉ QF ∧ a.block ≠ t ∧ a.block ≠ mp
 bt : B ≤ t
 bm : B ≤ mp
 u : UpR T.l
 wf : ∀ r ∈ T.l, wfP r.p
 n : T.l.length ≤ 900000
theorem TabZ.lo {p : PI} {w : World} {B t q mp m : Nat} {A : Option Addr} {QF : List Nat} {l : List Tw} {T : Tb} (h : TabZ p w B t q mp m A QF l T) : ∀ b ∈ t :: mp :: QF, B ≤ b ∧ b < w.heap.size := by
 intro b hb
 rcases List.mem_cons.1 hb with rfl | hb
 ·exact ⟨h.bt, h.bk.lt⟩
 ·rcases List.mem_cons.1 hb with rfl | hb
  ·exact ⟨h.bm, h.mr.lt⟩
  ·exact h.qs.lo b hb
theorem TabZ.only {p : PI} {w w' : World} {B t q mp m : Nat} {A : Option Addr} {QF bs : List Nat} {l : List Tw} {T : Tb} (h : TabZ p w B t q mp m A QF l T) (k : Only bs w w') (hb : ∀ b ∈ bs, b ∉ t :: mp :: QF) (hA : ∀ a, A = some a → a.block ∉ bs) : TabZ p w' B t q mp m A QF l T where
 bk := h.bk.only k (fun e => hb t e List.mem_cons_self)
 qs := h.qs.only k (fun b e z => hb b z (by simp [e]))
 pm := h.pm
 ln := h.ln
 mr := h.mr.only k (fun e => hb mp e (by simp))
 ow := vaU h.ow k hA
 tq := h.tq
 mq := h.mq
 mt := h.mt
 an := h.an
 bt := h.bt
 bm := h.bm
 u := h.u
 wf := h.wf
 n := h.n
theorem TabZ.keep {p : PI} {w w' : World} {B t q mp m : Nat} {A : Option Addr} {QF : List Nat} {l : List Tw} {T : Tb} (h : TabZ p w B t q mp m A QF l T) (k : Kp w w') : TabZ p w' B t q mp m A QF l T :=
 h.only (bs := []) (Only.of_kp k) (by simp) (by simp)
theorem vie (p : PI) (l : List Tw) : offP p (offP p l) = offP p l := by
 unfold offP
 rw [List.filter_filter]
 simp
def PutZ (w w' : World) (B t q mp m : Nat) (A : Option Addr) (QF : List Nat) (T : Tb) : Prop := ∃ QF' l', TabX w' B t q mp m A QF' l' T ∧ Only (t :: mp :: QF) w w' ∧ ∀ b ∈ QF', b ∈ QF ∨ w.heap.size ≤ b
set_option maxRecDepth 100000 in
theorem put_z (B t g : Nat) (T : Tb) (r : Rt) (w : World) (q mp m : Nat) (A : Option Addr) (QF : List Nat) (l : List Tw) (X : TabZ r.p w B t q mp m A QF l T) (hg : Blk w g 52 (roC r)) (hr : okR r = true) (ha : r.p.a < 4294967296) (hn : T.l.length < 800000) :
  Calls Tryz.prog 53 #[.pointer (some ⟨t, 0, none⟩), .slice (some ⟨g, 0, none⟩) 1 1] w fun e w' => e = .returned (.tuple #[]) ∧ PutZ w w' B t q mp m A QF ⟨T.c, setR r T.l, T.now, T.rf⟩ := by
 have hwr := vnd hr ha
 have hr' := (vaq r).1 hr
 have ss := vbh hr'.2
 obtain ⟨b, hb⟩ : ∃ b, w.heap.size = b := ⟨_, rfl⟩
 obtain ⟨W, hW, kW, B0⟩ := Blk.al1 hb (roC r) 52
 have X1 := X.keep kW
 unfold roC at hW
 have x0 := Blk.f hg rfl
 obtain ⟨p0, p1, p2, p3, p4, p5, p6, p7, p8⟩ := Blk.p9 B0
 have c0 : W.cell? ⟨t, 0, none⟩ = some (.pointer (some ⟨q, 0, none⟩)) := X1.bk.cell 0
 have hll := X.ln
 have hbF : b ∉ QF := fun e => by have := (X.qs.lo b e).2; omega
 have hbt : ¬ b = t := by have := X.bk.lt; omega
 have hbm : ¬ b = mp := by have := X.mr.lt; omega
 have K : Kp W W.drew := (Kp.refl W).drew
 have HX := Lib.hid X
 have HX1 := Lib.hid X1
 have HS := Lib.hid ss
 clear X X1 ss
 go_enter Tryz.func53, Tryz.ntmps53
 go_wp2_with fail
 refine wp_loop_rounds 2 ?_
 rw [rounds_succ]
 go_wp2_with fail
 try clear hW
 clear x0
 go_region_held3 (fun w' => w'.cell? ⟨t, 0, none⟩ = some (.pointer (some ⟨q, 0, none⟩)) ∧ w'.cell? ⟨b, 0, none⟩ = some (.int .u32 (r.p.a : Int)) ∧ w'.cell? ⟨b, 1, none⟩ = some (.int .i64 r.p.l) ∧ w'.cell? ⟨b, 2, none⟩ = some (.int .i64 r.s) ∧ w'.cell? ⟨b, 3, none⟩ = some (.int .i64 r.m) ∧ w'.cell? ⟨b, 4, none⟩ = some (.int .i64 r.l) ∧ w'.cell? ⟨b, 5, none⟩ = some (.int .i64 r.f) ∧ w'.cell? ⟨b, 6, none⟩ = some (.int .u32 (r.x : Int)) ∧ w'.cell? ⟨b, 7, none⟩ = some (.int .i64 r.d) ∧ w'.cell? ⟨b, 8, none⟩ = some (.bool r.c))
  (first | exact ⟨BT.cell 0, BA.cell 0, BA.cell 1, BA.cell 2, BA.cell 3, BA.cell 4, BA.cell 5, BA.cell 6, BA.cell 7, BA.cell 8⟩ | exact ⟨K.cell c0, K.cell p0, K.cell p1, K.cell p2, K.cell p3, K.cell p4, K.cell p5, K.cell p6, K.cell p7, K.cell p8⟩ | go_keep)
  (first | (go_at_call 119; refine (vjC B q QF l r _ (HX1.out.qs.keep K) hr ha hll).mono ?_; rintro e wv ⟨rfl, l', hp, QF', hQ1, hQ2, hQ3⟩; have BA := (B0.keep K).only hQ2 hbF; have BT := (HX1.out.bk.keep K).only hQ2 HX1.out.tq))
 clear p0 p1 p2 p3 p4 p5 p6 p7 p8 c0
 have kK := kW.trans K
 have X2 := HX.out.keep kK
 have M2 := X2.mr.only hQ2 X2.mq
 have O2 := vaU X2.ow hQ2 (fun a e => (X2.an a e).1)
 have hO := (Only.of_kp (bs := QF) kK).trans hQ2
 have hpm : l'.Perm (armL (setR r T.l)) := hp.trans ((HX.out.pm.append_left _).trans (vgY r T.l).symm)
 have hnew : ∀ x ∈ QF', x ∈ QF ∨ w.heap.size ≤ x := fun x hx => (hQ3 x hx).imp id (fun z => Nat.le_trans kK.size z)
 have htn : t ∉ QF' := fun e => (hnew t e).elim HX.out.tq (fun z => by have := HX.out.bk.lt; omega)
 have hmn : mp ∉ QF' := fun e => (hnew mp e).elim HX.out.mq (fun z => by have := HX.out.mr.lt; omega)
 have han : ∀ a, A = some a → a.block ∉ QF' := fun a e z => (hnew _ z).elim (HX.out.an a e).1 (fun z => by have := (vcz HX.out.ow a e).2; omega)
 have hln : (setR r T.l).length ≤ 900000 := by
  have h1 := (vas r T.l).length_eq
  have h2 : (offR r.p T.l).length ≤ T.l.length := List.length_filter_le _ _
  rw [List.length_append] at h1
  have : (if r.s = 0 then [] else [r]).length ≤ 1 := by split <;> simp
  omega
 have hwn : ∀ x ∈ setR r T.l, wfP x.p := fun x hx => by
  rcases vao.1 hx with ⟨rfl, _⟩ | ⟨hx, _⟩
  ·exact hwr
  ·exact HX.out.wf x hx
 obtain ⟨es, hD, hes⟩ := M2
 have hfin : ∀ W1, (Only [mp] wv W1) → MapR W1 mp (setR r T.l) → PutZ w W1 B t q mp m A QF ⟨T.c, setR r T.l, T.now, T.rf⟩ := fun W1 k1 hM => by
  refine ⟨QF', l', ⟨BT.only k1 (by simpa using fun e => HX.out.mt e.symm), hQ1.only k1 (fun x hx => by simp only [List.mem_cons, List.not_mem_nil, or_false]; rintro rfl; exact hmn hx), hpm, hM, vaU O2 k1 (fun a e => by simpa using (HX.out.an a e).2.2), htn, hmn, HX.out.mt, fun a e => ⟨han a e, (HX.out.an a e).2⟩, HX.out.bt, HX.out.bm, vbw r HX.out.u, hwn, hln⟩, ?_, hnew⟩
  ·refine ⟨k1.os.trans hO.os, k1.tape.trans hO.tape, k1.output.trans hO.output, Nat.le_trans hO.size k1.size, fun i hi hni => ?_⟩
   simp only [List.mem_cons, not_or] at hni
   rw [k1.block i (Nat.lt_of_lt_of_le hi hO.size) (by simpa using hni.2.1), hO.block i hi hni.2.2]
 have HF := Lib.hid hfin
 have hwf := HX.out.wf
 clear hfin hp hpm hnew htn hmn han hln hwn HX1
 obtain ⟨p0, p1, p2, p3, p4, p5, p6, p7, p8⟩ := Blk.p9 BA
 have c10 : wv.cell? ⟨t, 10, none⟩ = some (.map (some mp)) := BT.cell 10
 by_cases h0 : r.s = 0
 ·have e0 := beqT h0
  have hoff : (offR r.p T.l).Perm (setR r T.l) := by have := (vas r T.l).symm; rw [if_pos h0] at this; exact this
  have HO := Lib.hid hoff
  clear h0 hoff hO O2 X2
  go_upto_region 5 with (fail)
  go_still_tail 6, (by kernel_rfl)
  change wpList _ _ _ _ _ wv.drew
  refine wpList_delete_own wv.drew rfl _ _ 123 39 rfl 132 keyedPf Tryz.underlying123 rdAll mp T.l.length (.map es) rfl (vcA hD rfl) (pfV r.p) (pfKey r.p) rfl (vbx hwr) ?_
  intro W1 hD1 hT1
  have M1 := (MapR.del_ hes hwf hwr hD1).perm HO.out
  have H := Lib.hid (HF.out W1 ((Only.refl [mp] wv).drew.trans (Only.of_turned hT1)) M1)
  clear hD1 hT1 p0 p1 p2 p3 p4 p5 p6 p7 p8 c10 M1
  go_wp2_with fail
  rw [rounds_succ]
  go_wp2_with fail
  go_end0
  exact ⟨rfl, H.out⟩
 ·have e0 := beqF h0
  have hset : (r :: offR r.p T.l).Perm (setR r T.l) := by have := (vas r T.l).symm; rw [if_neg h0] at this; exact this
  have HO := Lib.hid hset
  clear h0 hset hO O2 X2
  go_upto_region 6 with (fail)
  go_still_tail 8, (by kernel_rfl)
  change wpList _ _ _ _ _ wv.drew
  refine wpList_mapUpdate_in wv.drew rfl _ _ _ 123 rfl 39 132 keyedPf Tryz.underlying123 rdAll mp T.l.length (.map es) rfl (vcA hD rfl) (by simp only [maxLen]; omega) (pfV r.p) (roV r) (pfKey r.p) rfl rfl (vbx hwr) (.held (roV r)) [] rfl ?_
  intro W1 hD1 hT1
  have M1 := (MapR.put_ hes hwf hwr hD1).perm HO.out
  have H := Lib.hid (HF.out W1 ((Only.refl [mp] wv).drew.trans (Only.of_turned hT1)) M1)
  clear hD1 hT1 p0 p1 p2 p3 p4 p5 p6 p7 p8 c10 M1
  go_wp2_with fail
  rw [rounds_succ]
  go_wp2_with fail
  go_end0
  exact ⟨rfl, H.out⟩
set_option maxRecDepth 100000 in
theorem voF (B q : Nat) (F : List Nat) (l : List Tw) (now : Int) (w : World) (S : QuS w B q F l) (hd : ∀ y ∈ l, now < y.d) : Calls Tryz.prog 79 #[.agg #[.pointer (some ⟨q, 0, none⟩)], .int .i64 now] w fun e w' => e = .returned (.tuple #[.agg #[.int .u32 0, .int .i64 0], .bool false]) ∧ Kp w w' := by
 obtain ⟨b, hb⟩ : ∃ b, w.heap.size = b := ⟨_, rfl⟩
 obtain ⟨W, hW, kW, B0, B1⟩ := Blk.al2 hb #[.pointer (some ⟨q, 0, none⟩)] 121 #[.int .u32 0, .int .i64 0] 39
 have c0 : W.cell? ⟨b, 0, none⟩ = some (.pointer (some ⟨q, 0, none⟩)) := B0.cell 0
 have hlt := B1.lt
 have HD := Lib.hid hd
 clear hd
 go_enter Tryz.func79, Tryz.ntmps79
 go_wp2_with fail
 refine (vnZ B q F l now _ (S.keep kW) HD.out).mono ?_
 rintro e w1 ⟨rfl, K1⟩
 obtain ⟨g, hg⟩ : ∃ g, w1.heap.size = g := ⟨_, rfl⟩
 have D1 := B1.keep K1
 have hg1 := D1.lt
 obtain ⟨V0, hV0, kV0, E10, E20⟩ : ∃ V, w1.alloc (.cells #[.int .i64 0, .int .u32 0, .int .i64 0] 252) = V ∧ Kp w V ∧ Blk V (b + 1) 39 #[.int .u32 0, .int .i64 0] ∧ Blk V g 252 #[.int .i64 0, .int .u32 0, .int .i64 0] := ⟨_, rfl, (kW.trans K1).alloc _, D1.alloc _, by rw [← hg]; exact Blk.new _ _ _⟩
 have hwg : w.heap.size ≤ g := by rw [← hg]; exact (kW.trans K1).size
 obtain ⟨s0, s1, s2⟩ := Blk.v3 E20 (.int .i64 0) (.int .u32 0) (.int .i64 0) rfl
 have t0 := Blk.frozen E20
 obtain ⟨V, hV, kV, E1, E2⟩ : ∃ V, ((V0.setCell ⟨g, 0, none⟩ (.int .i64 0)).setCell ⟨g, 1, none⟩ (.int .u32 0)).setCell ⟨g, 2, none⟩ (.int .i64 0) = V ∧ Kp w V ∧ Blk V (b + 1) 39 #[.int .u32 0, .int .i64 0] ∧ Blk V g 252 #[.int .i64 0, .int .u32 0, .int .i64 0] := ⟨_, rfl, ((kV0.setCell (p := ⟨g, 0, none⟩) hwg _).setCell (p := ⟨g, 1, none⟩) hwg _).setCell (p := ⟨g, 2, none⟩) hwg _, ((E10.far (p := ⟨g, 0, none⟩) (by show b + 1 ≠ g; omega) _).far (p := ⟨g, 1, none⟩) (by show b + 1 ≠ g; omega) _).far (p := ⟨g, 2, none⟩) (by show b + 1 ≠ g; omega) _, by have H := ((E20.set_ 0 (.int .i64 0)).set_ 1 (.int .u32 0)).set_ 2 (.int .i64 0); simp only [List.setIfInBounds_toArray, List.set_cons_zero, List.set_cons_succ] at H; exact H⟩
 obtain ⟨x0, x1⟩ := Blk.v2 E1 (.int .u32 0) (.int .i64 0) rfl
 have z0 := Blk.frozen E1
 obtain ⟨y0, y1, y2⟩ := Blk.v3 E2 (.int .i64 0) (.int .u32 0) (.int .i64 0) rfl
 obtain ⟨R, hR, BR, kR⟩ : ∃ R, (V.setCell ⟨b + 1, 0, none⟩ (.int .u32 0)).setCell ⟨b + 1, 1, none⟩ (.int .i64 0) = R ∧ Blk R (b + 1) 39 #[.int .u32 0, .int .i64 0] ∧ Kp w R := ⟨_, rfl, by have H := (E1.set_ 0 (.int .u32 0)).set_ 1 (.int .i64 0); simp only [List.setIfInBounds_toArray, List.set_cons_zero, List.set_cons_succ] at H; exact H, (kV.setCell (p := ⟨b + 1, 0, none⟩) (by show w.heap.size ≤ b + 1; omega) _).setCell (p := ⟨b + 1, 1, none⟩) (by show w.heap.size ≤ b + 1; omega) _⟩
 obtain ⟨u0, u1⟩ := Blk.v2 BR (.int .u32 0) (.int .i64 0) rfl
 clear c0 hW
 go_wp2_with fail
 exact ⟨rfl, .tuple #[.agg #[.int .u32 0, .int .i64 0], .bool false], by simp [results, Tryz.results79, go_sem, u0, u1], rfl, kR⟩
set_option maxRecDepth 100000 in
theorem vob (B q : Nat) (F : List Nat) (l : List Tw) (now : Int) (w : World) (S : QuS w B q F l) (hd : ∃ y ∈ l, y.d ≤ now) (hl : l.length ≤ 900000) : Calls Tryz.prog 79 #[.agg #[.pointer (some ⟨q, 0, none⟩)], .int .i64 now] w fun e w' => ∃ y ∈ l, (∀ z ∈ l, ltT z y = false) ∧ y.d ≤ now ∧ e = .returned (.tuple #[pfV y.p, .bool true]) ∧ ∃ l', l'.Perm (offP y.p l) ∧ QT w w' B q F l' := by
 obtain ⟨b, hb⟩ : ∃ b, w.heap.size = b := ⟨_, rfl⟩
 obtain ⟨W, hW, kW, B0, B1⟩ := Blk.al2 hb #[.pointer (some ⟨q, 0, none⟩)] 121 #[.int .u32 0, .int .i64 0] 39
 have c0 : W.cell? ⟨b, 0, none⟩ = some (.pointer (some ⟨q, 0, none⟩)) := B0.cell 0
 have hlt := B1.lt
 have HD := Lib.hid hd
 have hFb : ∀ x ∈ F, x < w.heap.size := fun x hx => (S.lo x hx).2
 have HFb := Lib.hid hFb
 clear hd hFb
 go_enter Tryz.func79, Tryz.ntmps79
 go_wp2_with fail
 refine (voD B q F l now _ (S.keep kW) HD.out hl).mono ?_
 rintro e w1 ⟨y, hy, hle, hyd, rfl, l', hp, F', hQ, hO, hF'⟩
 have HLE := Lib.hid hle
 have HYD := Lib.hid hyd
 obtain ⟨g, hg⟩ : ∃ g, w1.heap.size = g := ⟨_, rfl⟩
 have hbF : b + 1 ∉ F := fun z => by have := HFb.out _ z; omega
 have D1 := B1.only hO hbF
 have hg1 := D1.lt
 have hO0 : Only F w w1 := (Only.of_kp kW).trans hO
 obtain ⟨V, hV, hOV, QV, E1, E2⟩ : ∃ V, w1.alloc (.cells #[.int .i64 y.k, .int .u32 (y.p.a : Int), .int .i64 y.p.l] 252) = V ∧ Only F w V ∧ QuS V B q F' l' ∧ Blk V (b + 1) 39 #[.int .u32 0, .int .i64 0] ∧ Blk V g 252 #[.int .i64 y.k, .int .u32 (y.p.a : Int), .int .i64 y.p.l] := ⟨_, rfl, hO0.alloc _, hQ.keep ((Kp.refl _).alloc _), D1.alloc _, by rw [← hg]; exact Blk.new _ _ _⟩
 have HF' := Lib.hid hF'
 have hkb : b + 1 ∉ F' := fun z => by
  rcases HF'.out _ z with k | k
  ·exact hbF k
  ·omega
 clear hle hyd hF'
 obtain ⟨x0, x1⟩ := Blk.v2 E1 (.int .u32 0) (.int .i64 0) rfl
 have z0 := Blk.frozen E1
 obtain ⟨y0, y1, y2⟩ := Blk.v3 E2 (.int .i64 y.k) (.int .u32 (y.p.a : Int)) (.int .i64 y.p.l) rfl
 obtain ⟨R, hR, BR, hOR, QR⟩ : ∃ R, (V.setCell ⟨b + 1, 0, none⟩ (.int .u32 (y.p.a : Int))).setCell ⟨b + 1, 1, none⟩ (.int .i64 y.p.l) = R ∧ Blk R (b + 1) 39 #[.int .u32 (y.p.a : Int), .int .i64 y.p.l] ∧ Only F w R ∧ QuS R B q F' l' := ⟨_, rfl, by have H := (E1.set_ 0 (.int .u32 (y.p.a : Int))).set_ 1 (.int .i64 y.p.l); simp only [List.setIfInBounds_toArray, List.set_cons_zero, List.set_cons_succ] at H; exact H, (hOV.setCell (p := ⟨b + 1, 0, none⟩) (.inr (by show w.heap.size ≤ b + 1; omega)) _).setCell (p := ⟨b + 1, 1, none⟩) (.inr (by show w.heap.size ≤ b + 1; omega)) _, QV.only (((Only.refl [b + 1] V).setCell (p := ⟨b + 1, 0, none⟩) (.inl (by simp)) _).setCell (p := ⟨b + 1, 1, none⟩) (.inl (by simp)) _) (fun z hz k => by simp only [List.mem_cons, List.not_mem_nil, or_false] at k; subst k; exact hkb hz)⟩
 obtain ⟨u0, u1⟩ := Blk.p2 BR
 clear c0 hW
 have hWs := kW.size
 go_wp2_with fail
 exact ⟨rfl, .tuple #[pfV y.p, .bool true], by simp [results, Tryz.results79, go_sem, u0, u1], y, hy, HLE.out, HYD.out, rfl, l', hp, F', QR, hOR, fun z hz => (HF'.out z hz).imp id (fun k => Nat.le_trans hWs k)⟩
theorem vif (B t q mp m : Nat) (A : Option Addr) (QF : List Nat) (l : List Tw) (T : Tb) (now : Int) (w : World) (X : TabX w B t q mp m A QF l T) (hd : ∀ y ∈ armL T.l, now < y.d) : Calls Tryz.prog 79 #[.agg #[.pointer (some ⟨q, 0, none⟩)], .int .i64 now] w fun e w' => e = .returned (.tuple #[.agg #[.int .u32 0, .int .i64 0], .bool false]) ∧ Kp w w' :=
 voF B q QF l now w X.qs (fun y hy => hd y (X.pm.mem_iff.1 hy))
theorem TabX.len {w : World} {B t q mp m : Nat} {A : Option Addr} {QF : List Nat} {l : List Tw} {T : Tb} (X : TabX w B t q mp m A QF l T) : l.length ≤ 900000 := by
 have h1 := X.pm.length_eq
 have h2 : (armL T.l).length ≤ T.l.length := by unfold armL; rw [List.length_map]; exact List.length_filter_le _ _
 have := X.n
 omega
theorem vgu (B t q mp m : Nat) (A : Option Addr) (QF : List Nat) (l : List Tw) (T : Tb) (now : Int) (w : World) (X : TabX w B t q mp m A QF l T) (hd : ∃ y ∈ armL T.l, y.d ≤ now) : Calls Tryz.prog 79 #[.agg #[.pointer (some ⟨q, 0, none⟩)], .int .i64 now] w fun e w' => ∃ r, firstR T.l = some r ∧ r ∈ T.l ∧ 2 ≤ r.s ∧ r.d ≤ now ∧ e = .returned (.tuple #[pfV r.p, .bool true]) ∧ ∃ QF' l', TabZ r.p w' B t q mp m A QF' l' T ∧ Only QF w w' ∧ (∀ b ∈ QF', b ∈ QF ∨ w.heap.size ≤ b) := by
 obtain ⟨y0, hy0, hd0⟩ := hd
 refine (vob B q QF l now w X.qs ⟨y0, X.pm.mem_iff.2 hy0, hd0⟩ X.len).mono ?_
 rintro e w' ⟨y, hy, hle, hyd, rfl, l', hp, QF', hQ, hO, hF⟩
 obtain ⟨r, hr, hrm, hrs, he⟩ := vfG X.u (X.pm.mem_iff.1 hy) (fun z hz => hle z (X.pm.mem_iff.2 hz))
 subst he
 have htl := X.bk.lt
 have hml := X.mr.lt
 refine ⟨r, hr, hrm, hrs, hyd, rfl, QF', l', ⟨X.bk.only hO X.tq, hQ, ?_, ?_, X.mr.only hO X.mq, vaU X.ow hO (fun a e => (X.an a e).1), fun z => ?_, fun z => ?_, X.mt, fun a e => ⟨fun z => ?_, (X.an a e).2⟩, X.bt, X.bm, X.u, X.wf, X.n⟩, hO, hF⟩
 ·refine (hp.filter _).trans ?_
  show (offP r.p (offP r.p l)).Perm _
  rw [vie]
  exact X.pm.filter _
 ·rw [hp.length_eq]
  exact Nat.le_trans (List.length_filter_le _ _) X.len
 ·rcases hF _ z with k | k
  ·exact X.tq k
  ·omega
 ·rcases hF _ z with k | k
  ·exact X.mq k
  ·omega
 ·rcases hF _ z with k | k
  ·exact (X.an a e).1 k
  ·have := (vcz X.ow a e).2; omega
def expE (c : Cf) (now : Int) (L : List Rt) : List Rt × Int := expG c now (dueS now L + 1) L
theorem vjQ {c : Cf} {now : Int} {L : List Rt} (u : UpR L) (h : ∀ y ∈ armL L, now < y.d) : expE c now L = (L, 0) := by
 unfold expE expG
 cases e : firstR L with
 | none => rfl
 | some r =>
  obtain ⟨h1, h2, _⟩ := (vba u).2 r e
  have := h (twR r) (veS.2 ⟨r, h1, h2, rfl⟩)
  have h3 : now < r.d := this
  simp only [h3, if_true]
theorem vjR {c : Cf} {now : Int} {L : List Rt} {r : Rt} (hc : okCf c = true) (u : UpR L) (hr : ∀ x ∈ L, okR x = true) (hn : okNow now = true) (he : firstR L = some r) (hd : r.d ≤ now) : expE c now L = ((expE c now (setR (expR c r now) L)).1, (expE c now (setR (expR c r now) L)).2 + 1) := by
 obtain ⟨h1, h2, _⟩ := (vba u).2 r he
 have hlt := vhc u hc h1 (hr r h1) h2 hd
 have hm := vdG hc (dueS now L) (dueS now (setR (expR c r now) L) + 1) (setR (expR c r now) L) (vbw _ u) (fun x hx => by
  rcases vao.1 hx with ⟨rfl, _⟩ | ⟨hx, _⟩
  ·exact vcw hc (hr r h1) hn
  ·exact hr x hx) hn hlt (by omega)
 have h3 : ¬ now < r.d := by omega
 have : expE c now L = ((expG c now (dueS now L) (setR (expR c r now) L)).1, (expG c now (dueS now L) (setR (expR c r now) L)).2 + 1) := by
  unfold expE
  rw [expG, he]
  simp only [h3, if_false]
 rw [this, hm]
 rfl
theorem vmc {T : Tb} (h : TbOk T) {now : Int} (hn : okNow now = true) : expG T.c now 1000 T.l = expE T.c now T.l := by
 have h1 := vjq now T.l
 have h2 := h.n
 have h3 := vaO h.c
 exact vdG h.c 1000 (dueS now T.l + 1) T.l h.u (fun x hx => (h.r x hx).1) hn (by omega) (by omega)
theorem vhi (c : Cf) (now : Int) : ∀ (k : Nat) (L : List Rt), 0 ≤ (expG c now k L).2 ∧ (expG c now k L).2 ≤ k
 | 0, L => ⟨Int.le_refl _, Int.le_refl _⟩
 | k + 1, L => by
  unfold expG
  split
  ·exact ⟨Int.le_refl _, by show (0 : Int) ≤ _; omega⟩
  ·split
   ·exact ⟨Int.le_refl _, by show (0 : Int) ≤ _; omega⟩
   ·have := vhi c now k (setR (expR c ‹Rt› now) L)
    show 0 ≤ (_ : Int) + 1 ∧ (_ : Int) + 1 ≤ _
    omega
theorem vhj (c : Cf) (now : Int) (L : List Rt) : 0 ≤ (expE c now L).2 ∧ (expE c now L).2 ≤ 2 * L.length + 1 := by
 have h := vhi c now (dueS now L + 1) L
 have h2 := vjq now L
 unfold expE
 omega
def DueSt (w : World) (B t q mp m : Nat) (A : Option Addr) (QF : List Nat) (l : List Tw) (T : Tb) (p : PI) (is : Bool) : Prop :=
 (is = false ∧ TabX w B t q mp m A QF l T ∧ ∀ y ∈ armL T.l, T.now < y.d) ∨ (is = true ∧ ∃ r, p = r.p ∧ firstR T.l = some r ∧ r ∈ T.l ∧ 2 ≤ r.s ∧ r.d ≤ T.now ∧ TabZ r.p w B t q mp m A QF l T)
theorem DueSt.only {w w' : World} {B t q mp m : Nat} {A : Option Addr} {QF bs : List Nat} {l : List Tw} {T : Tb} {p : PI} {is : Bool} (h : DueSt w B t q mp m A QF l T p is) (k : Only bs w w') (hb : ∀ b ∈ bs, b ∉ t :: mp :: QF) (hA : ∀ a, A = some a → a.block ∉ bs) : DueSt w' B t q mp m A QF l T p is := by
 rcases h with ⟨h1, h2, h3⟩ | ⟨h1, r, h2, h3, h4, h5, h6, h7⟩
 ·exact .inl ⟨h1, h2.only k hb hA, h3⟩
 ·exact .inr ⟨h1, r, h2, h3, h4, h5, h6, h7.only k hb hA⟩
theorem DueSt.keep {w w' : World} {B t q mp m : Nat} {A : Option Addr} {QF : List Nat} {l : List Tw} {T : Tb} {p : PI} {is : Bool} (h : DueSt w B t q mp m A QF l T p is) (k : Kp w w') : DueSt w' B t q mp m A QF l T p is :=
 h.only (bs := []) (Only.of_kp k) (by simp) (by simp)
theorem DueSt.lo {w : World} {B t q mp m : Nat} {A : Option Addr} {QF : List Nat} {l : List Tw} {T : Tb} {p : PI} {is : Bool} (h : DueSt w B t q mp m A QF l T p is) : ∀ b ∈ t :: mp :: QF, B ≤ b ∧ b < w.heap.size := by
 rcases h with ⟨_, h2, _⟩ | ⟨_, r, _, _, _, _, _, h7⟩
 ·exact h2.lo
 ·exact h7.lo
def DueT (w w' : World) (B t q mp m : Nat) (A : Option Addr) (QF : List Nat) (T : Tb) (p : PI) (is : Bool) : Prop := ∃ QF' l', DueSt w' B t q mp m A QF' l' T p is ∧ Only QF w w' ∧ ∀ b ∈ QF', b ∈ QF ∨ w.heap.size ≤ b
theorem vjS (B t q mp m : Nat) (A : Option Addr) (QF : List Nat) (l : List Tw) (T : Tb) (w : World) (X : TabX w B t q mp m A QF l T) : Calls Tryz.prog 79 #[.agg #[.pointer (some ⟨q, 0, none⟩)], .int .i64 T.now] w fun e w' => ∃ p is, e = .returned (.tuple #[pfV p, .bool is]) ∧ DueT w w' B t q mp m A QF T p is := by
 by_cases hd : ∃ y ∈ armL T.l, y.d ≤ T.now
 ·refine (vgu B t q mp m A QF l T T.now w X hd).mono ?_
  rintro e w' ⟨r, h1, h2, h3, h4, rfl, QF', l', h5, h6, h7⟩
  exact ⟨r.p, true, rfl, QF', l', .inr ⟨rfl, r, rfl, h1, h2, h3, h4, h5⟩, h6, h7⟩
 ·have hd' : ∀ y ∈ armL T.l, T.now < y.d := fun y hy => by
   by_cases h : T.now < y.d
   ·exact h
   ·exact absurd ⟨y, hy, by omega⟩ hd
  refine (vif B t q mp m A QF l T T.now w X hd').mono ?_
  rintro e w' ⟨rfl, K⟩
  exact ⟨⟨0, 0⟩, false, rfl, QF, l, .inl ⟨rfl, X.keep K, hd'⟩, Only.of_kp K, fun b hb => .inl hb⟩
structure ExI (w0 : World) (B t q mp m : Nat) (A : Option Addr) (QF0 : List Nat) (pt pn pc : Nat) (T : Tb) (L : List Rt) (k : Int) (g : Nat) (p : PI) (is : Bool) (QF : List Nat) (l : List Tw) (wr : World) : Prop where
 bt : Blk wr pt 43 #[.pointer (some ⟨t, 0, none⟩)]
 bn : Blk wr pn 2 #[.int .i64 T.now]
 bc : Blk wr pc 3 #[.int .i64 k]
 bg : Blk wr g 39 #[.int .u32 (p.a : Int), .int .i64 p.l]
 gg : w0.heap.size ≤ g ∧ g ∉ QF
 on : Only (pc :: t :: mp :: QF0) w0 wr
 nw : ∀ b ∈ QF, b ∈ QF0 ∨ w0.heap.size ≤ b
 ok : TbOk ⟨T.c, L, T.now, T.rf⟩
 xs : ∀ r ∈ L, r.x < 4294967296
 kk : 0 ≤ k
 ex : expE T.c T.now T.l = ((expE T.c T.now L).1, (expE T.c T.now L).2 + k)
 st : DueSt wr B t q mp m A QF l ⟨T.c, L, T.now, T.rf⟩ p is
theorem exp_x {c : Cf} {r : Rt} {now : Int} (h : r.x < 4294967296) : (expR c r now).x < 4294967296 := by
 unfold expR
 repeat' split
 all_goals first | exact h | exact (by decide : (0 : Nat) < 4294967296)
theorem Only.joinF {F bs : List Nat} {w w1 w2 : World} (h : Only F w w1) (k : Only bs w1 w2) (hb : ∀ b ∈ bs, b ∈ F ∨ w.heap.size ≤ b) : Only F w w2 :=
 ⟨k.os.trans h.os, k.tape.trans h.tape, k.output.trans h.output, Nat.le_trans h.size k.size, fun i hi hn => (k.block i (Nat.lt_of_lt_of_le hi h.size) (fun e => (hb i e).elim hn (fun z => by omega))).trans (h.block i hi hn)⟩
theorem Only.wider {F G : List Nat} {w w' : World} (h : Only F w w') (hs : ∀ b ∈ F, b ∈ G) : Only G w w' :=
 ⟨h.os, h.tape, h.output, h.size, fun i hi hn => h.block i hi (fun z => hn (hs i z))⟩
theorem vig (v0 v1 v2 v3 v4 v5 v6 v7 v8 : Value) (w : World) : (Instr.field 132 (.agg #[v0, v1, v2, v3, v4, v5, v6, v7, v8]) 0).run Tryz.prog w = .ok (.agg #[v0, v1, v2, v3, v4, v5, v6, v7, v8]) w := by kernel_rfl
theorem vhk {w : World} {m : Nat} {L : List Rt} (h : MapR w m L) (u : UpR L) (hw : ∀ r ∈ L, wfP r.p) {r : Rt} (hr : r ∈ L) : ∀ w' w'', Kp w w' → w''.heap = w'.heap → (Instr.lookup 123 (.map (some m)) (pfV r.p) false).run Tryz.prog w'' = .ok (.agg #[.int .u32 (r.p.a : Int), .int .i64 r.p.l, .int .i64 r.s, .int .i64 r.m, .int .i64 r.l, .int .i64 r.f, .int .u32 (r.x : Int), .int .i64 r.d, .bool r.c]) w'' := by
 intro w' w'' k e
 have := vma (h.keep k) u hw (hw r hr) w'' e
 rw [vdF u hr] at this
 exact this
end

section
open Go.RowKit
structure Good (T : Tb) : Prop where
 ok : TbOk T
 xs : ∀ r ∈ T.l, r.x < 4294967296
 own : ∀ k (hk : k < T.c.own.length), T.c.own[k].a < 4294967296
theorem vne {c : Cf} {r : Rt} {h : Hd} {now : Int} (hr : r.x < 4294967296) (hh : h.a < 4294967296) : (hearR c r h now).x < 4294967296 := by
 unfold hearR newR lostR
 repeat' split
 all_goals first | exact hr | exact hh
theorem was_x {T : Tb} (h : ∀ r ∈ T.l, r.x < 4294967296) (p : PI) : (wasR p T.l).x < 4294967296 := by
 unfold wasR
 cases e : getR p T.l with
 | none => exact (by decide : (0 : Nat) < 4294967296)
 | some r => exact h r (vaP e).1
theorem set_x {L : List Rt} {r : Rt} (h : ∀ x ∈ L, x.x < 4294967296) (hr : r.x < 4294967296) : ∀ x ∈ setR r L, x.x < 4294967296 := fun x hx => by
 rcases vao.1 hx with ⟨rfl, _⟩ | ⟨hx, _⟩
 ·exact hr
 ·exact h x hx
theorem Good.heard {T : Tb} (h : Good T) (p : PI) {k : Hd} (now : Int) (hk : k.a < 4294967296) : Good (heardT T p k now).1 := by
 refine ⟨vhb h.ok p k now, ?_, ?_⟩
 ·unfold heardT
  repeat' split
  all_goals first | exact h.xs | exact set_x h.xs (vne (was_x h.xs p) hk)
 ·have : (heardT T p k now).1.c = T.c := by unfold heardT; (repeat' split) <;> rfl
  rw [this]
  exact h.own
theorem vnf {c : Cf} {now : Int} : ∀ (k : Nat) (L : List Rt), UpR L → (∀ r ∈ L, r.x < 4294967296) → ∀ r ∈ (expG c now k L).1, r.x < 4294967296
 | 0, L, _, h => h
 | k + 1, L, u, h => by
  unfold expG
  split
  ·exact h
  ·next r e =>
   split
   ·exact h
   ·exact vnf k _ (vbw _ u) (set_x h (exp_x (h r ((vba u).2 r e).1)))
theorem Good.exp {T : Tb} (h : Good T) (now : Int) : Good (expT T now).1 := by
 refine ⟨vnc h.ok now, ?_, ?_⟩
 ·unfold expT
  split
  ·exact vnf 1000 T.l h.ok.u h.xs
  ·exact h.xs
 ·have : (expT T now).1.c = T.c := by unfold expT; split <;> rfl
  rw [this]
  exact h.own
theorem Good.seen {T : Tb} (h : Good T) : Good (seenT T).1 :=
 ⟨vnX h.ok, fun r hr => by obtain ⟨y, hy, rfl⟩ := List.mem_map.1 hr; exact h.xs y hy, h.own⟩
theorem Good.new {c : Cf} (hc : okCf c = true) (ho : ∀ k (hk : k < c.own.length), c.own[k].a < 4294967296) : Good (newT c) := by
 refine ⟨vjt hc, fun r hr => ?_, ho⟩
 rcases ((vaY c.own [] List.Pairwise.nil).2.1 r).1 hr with ⟨p, _, rfl⟩ | ⟨h, _⟩
 ·exact (by decide : (0 : Nat) < 4294967296)
 ·simp at h
end

section
def mskN (n i : Nat) : Nat := (2 ^ min i n - 1) * 2 ^ (i - min i n)
theorem vmd (n : Nat) : mskN n 0 = 0 := by simp [mskN]
theorem voG (n i : Nat) : mskN n i < 2 ^ i := by
 unfold mskN
 have h1 : 2 ^ i = 2 ^ min i n * 2 ^ (i - min i n) := by rw [← Nat.pow_add]; congr 1; omega
 have h2 : 0 < 2 ^ min i n := Nat.pow_pos (by decide)
 have h3 : 0 < 2 ^ (i - min i n) := Nat.pow_pos (by decide)
 rw [h1]
 exact Nat.mul_lt_mul_of_pos_right (by omega) h3
theorem vme {n i : Nat} (h : i < n) : mskN n (i + 1) = 2 * mskN n i + 1 := by
 unfold mskN
 have e1 : min (i + 1) n = i + 1 := by omega
 have e2 : min i n = i := by omega
 rw [e1, e2]
 have h2 : 0 < 2 ^ i := Nat.pow_pos (by decide)
 simp only [Nat.sub_self, Nat.pow_zero, Nat.mul_one, Nat.pow_succ]
 omega
theorem vmf {n i : Nat} (h : ¬ i < n) : mskN n (i + 1) = 2 * mskN n i := by
 unfold mskN
 have e1 : min (i + 1) n = n := by omega
 have e2 : min i n = n := by omega
 rw [e1, e2, show i + 1 - n = (i - n) + 1 by omega, Nat.pow_succ]
 generalize 2 ^ (i - n) = x
 generalize 2 ^ n - 1 = y
 rw [Nat.mul_comm x 2, Nat.mul_left_comm]
theorem voc {n : Nat} (h : n ≤ 32) : mskN n 32 = maskN n := by
 unfold mskN maskN
 have e1 : min 32 n = n := by omega
 rw [e1, Nat.sub_mul, ← Nat.pow_add, show n + (32 - n) = 32 by omega]
 simp
theorem vjT (a k : Nat) : a / 2 ^ k / 2 = a / 2 ^ (k + 1) := by rw [Nat.div_div_eq_div_mul, ← Nat.pow_succ]
theorem voH {a i : Nat} (h : i < 32) : a / 2 ^ (31 - i) % 2 = bitN a i := by unfold bitN; rw [if_pos h]
theorem vjU {id : Nat} {P : Program} {Q : Exit → Act → World → Prop} {a : Act} {w : World} {l : List Oper} (hm : P.follows .mixedOrders = true)
  (h : ∀ W, W = w.drew → wpAny P .any l.toArray Q l.toArray.size (Array.replicate l.toArray.size false) a W) : (Code.region id l.toArray true).wp P Q a w := wp_region_any hm (h _ rfl)
end

end Go.Proofs.YtgopnfacklmkaaaGreatDoor
