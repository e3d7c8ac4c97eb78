/- Lemmas and contracts for the theorem of this claim: RbQ, RbR, RbS, AuB. -/
import Derived.Test.YtgopnfacklmkaaaGreatDoorZwAr
import Derived.StillTailTactics
set_option linter.all false
set_option maxHeartbeats 16000000
namespace Go.Proofs.YtgopnfacklmkaaaGreatDoor
section
open Go.RowKit Go.Maps
theorem QuS.mono {w : World} {B B' a : Nat} {F : List Nat} {l : List Tw} (h : QuS w B a F l) (hB : B' ≤ B) : QuS w B' a F l := by
 obtain ⟨q, m, v, hA, Q, ha, hq, hm, hg⟩ := h.q
 exact ⟨⟨q, m, v, hA, ⟨Q.bk, Q.own.mono hB, Q.mp, Q.wf⟩, ha, hq, hm, hg⟩, fun b e => ⟨Nat.le_trans hB (h.lo b e).1, (h.lo b e).2⟩, h.hp, h.k3⟩
def NewQ (w W : World) (c : Cf) (s : Value) (wx : World) : Prop := ∃ t F, s = .pointer (some ⟨t, 0, none⟩) ∧ TabM wx w.heap.size t F ⟨c, [], 0, 0⟩ ∧ Kp W wx
theorem NewQ.mk {w W : World} {c : Cf} {q mp m : Nat} {A : Option Addr} {QF : List Nat} {w1 w2 w3 w4 : World} (S : QuS w1 w.heap.size q QF []) (k1 : Kp w1 w4) (O : Own w2 w.heap.size 39 2 PI.enc (.slice A c.own.length m) c.own) (k2 : Kp w2 w4) (M : MapR w3 mp []) (k3 : Kp w3 w4) (hm : w.heap.size ≤ mp)
  (hmq : mp ∉ QF) (han : ∀ a, A = some a → a.block ∉ QF ∧ a.block ≠ mp) (kW : Kp W w4) (hw : w.heap.size ≤ w4.heap.size) : NewQ w W c (.pointer (some ⟨w4.heap.size, 0, none⟩)) (w4.alloc (.cells (tbC q ⟨c, [], 0, 0⟩ A m mp) 125)) := by
 have al : Kp w4 (w4.alloc (.cells (tbC q ⟨c, [], 0, 0⟩ A m mp) 125)) := (Kp.refl _).alloc _
 have S4 := S.keep k1
 have O4 := O.keep k2
 have M4 := M.keep k3
 refine ⟨w4.heap.size, _, rfl, ⟨q, mp, m, A, QF, [], rfl, Blk.new _ _ _, S4.keep al, .nil, M4.keep al, O4.keep al, fun e => by have := (S4.lo _ e).2; omega, hmq, fun e => by have := M4.lt; omega, fun a e => ⟨(han a e).1, fun z => by have := (vcp O4 a e).2; omega, (han a e).2⟩, hw, hm, List.Pairwise.nil, by simp, by simp⟩, kW.trans al⟩
set_option maxRecDepth 100000 in
theorem vim (c : Cf) (A : Option Addr) (m : Nat) (w : World) (hS : SlPI w A m c.own) (hC : CapAt w) (ha : ∀ k (hk : k < c.own.length), c.own[k].a < 4294967296) (hok : okCf c = true) :
  Calls Tryz.prog 13 #[cfV c A c.own.length m] w fun e w' => ∃ t F, e = .returned (.tuple #[.pointer (some ⟨t, 0, none⟩), .int .i64 0]) ∧ TabM w' w.heap.size t F (newT c) ∧ Kp w w' := by
 obtain ⟨b, hb⟩ : ∃ b, w.heap.size = b := ⟨_, rfl⟩
 obtain ⟨W, hW, kW, B0⟩ := Blk.al1 hb (cfC c A c.own.length m) 49
 unfold cfC at hW
 obtain ⟨c0, c1, c2, c3, c4, c5, c6, c7, c8⟩ := Blk.p9 B0
 have HS0 := Lib.hid hS
 have hS := hS.keep kW
 have hlen : c.own.length ≤ 16 := by have := (vbU hok).2.2.1; omega
 have hck : checkC c = 0 := by unfold checkC; rw [if_pos hok]
 have HA := Lib.hid ha
 have Hok := Lib.hid hok
 clear hok
 go_enter Tryz.func13, Tryz.ntmps13
 go_wp2_with fail
 refine (vcL c A m _ hS.le hS.rd (hC.keep kW) ha).mono ?_
 rintro e w1 ⟨rfl, K1⟩
 rw [hck]
 have B1 := B0.keep K1
 have hS := hS.keep K1
 have k1 := kW.trans K1
 clear hW c0 c1 c2 c3 c4 c5 c6 c7 c8 hC ha hck
 obtain ⟨c0, c1, c2, c3, c4, c5, c6, c7, c8⟩ := Blk.p9 B1
 have HS := Lib.hid hS
 clear hS
 go_upto_region 4 with (fail)
 go_cut [5] from 15 (fun s5 wx => NewQ w w1 c s5 wx)
 case first =>
  have K : Kp w1 w1.drew := (Kp.refl w1).drew
  have hmk : ∀ w, (Instr.makeMap 123 none).run Tryz.prog w = .ok (.map (some w.heap.size)) (w.alloc (.map #[] 0)) := fun w => run_makeMap _ _
  go_region_held3 (fun w' => w'.cell? ⟨b, 0, none⟩ = some (.int .i64 c.t0) ∧ w'.cell? ⟨b, 1, none⟩ = some (.int .i64 c.t1) ∧ w'.cell? ⟨b, 2, none⟩ = some (.int .i64 c.t2) ∧ w'.cell? ⟨b, 3, none⟩ = some (.int .i64 c.t3) ∧ w'.cell? ⟨b, 4, none⟩ = some (.int .i64 c.t4) ∧ w'.cell? ⟨b, 5, none⟩ = some (.int .i64 c.t5) ∧ w'.cell? ⟨b, 6, none⟩ = some (.int .i64 c.t6) ∧ w'.cell? ⟨b, 7, none⟩ = some (.int .i64 c.cap) ∧ w'.cell? ⟨b, 8, none⟩ = some (.slice A c.own.length m))
   (first | exact ⟨K.cell c0, K.cell c1, K.cell c2, K.cell c3, K.cell c4, K.cell c5, K.cell c6, K.cell c7, K.cell c8⟩ | exact ⟨(K.alloc _).cell c0, (K.alloc _).cell c1, (K.alloc _).cell c2, (K.alloc _).cell c3, (K.alloc _).cell c4, (K.alloc _).cell c5, (K.alloc _).cell c6, (K.alloc _).cell c7, (K.alloc _).cell c8⟩ | go_keep)
   (first
    | (go_at_call 50; refine (vkI _).mono ?_; rintro e wq ⟨q, QF, rfl, hq, hKq⟩; first | have K := K.trans hKq | have K := (K.alloc (.map #[] 0)).trans hKq)
    | (go_at_call 51; refine (vdC c A m _ (by first | exact HS.out.keep K | exact HS.out.keep (K.alloc _)) (by omega)).mono ?_; rintro e wo ⟨A2, m2, rfl, ho, hKo⟩; first | have K := K.trans hKo | have K := (K.alloc (.map #[] 0)).trans hKo))
  ·go_wp2_with fail
   go_meet
   case rel =>
    have hsz := hKo.size
    have hlq := hq.lo
    have hlo := vcp ho
    have h0 : w.heap.size ≤ w1.drew.heap.size := k1.size
    have hz := hKq.size
    have := NewQ.mk (W := w1) (hq.mono h0) (hKo.alloc (.map #[] 0)) (ho.mono (Nat.le_trans h0 hz)) ((Kp.refl wo).alloc (.map #[] 0)) (MapR.new wo) (Kp.refl _) (by omega) (fun e => by have := (hlq _ e).2; omega) (fun a e => ⟨fun z => by have := (hlo a e).1; have := (hlq _ z).2; omega, by have := (hlo a e).2; omega⟩) (K.alloc _) (by simp; omega)
    simpa [tbC] using this
  ·go_wp2_with fail
   go_meet
   case rel =>
    have hsz := hKo.size
    have hlq := hq.lo
    have hlo := vcp ho
    have h0 : w.heap.size ≤ w1.drew.heap.size := k1.size
    have hz := hKq.size
    simp only [World.size_alloc] at hsz hlo
    have := NewQ.mk (W := w1) (hq.mono h0) (((Kp.refl wq).alloc (.map #[] 0)).trans hKo) (ho.mono (by simp only [World.size_alloc]; omega)) (Kp.refl _) (MapR.new wq) hKo (by omega) (fun e => by have := (hlq _ e).2; omega) (fun a e => ⟨fun z => by have := (hlo a e).1; have := (hlq _ z).2; omega, by have := (hlo a e).1; omega⟩) K (by omega)
    simpa [tbC] using this
  ·go_wp2_with fail
   go_meet
   case rel =>
    have hsz := hKo.size
    have hlq := hq.lo
    have hlo := vcp ho
    have h0 : w.heap.size ≤ w1.drew.heap.size := k1.size
    have hz := hKq.size
    have hs1 : (w1.alloc (.map #[] 0)).drew.heap.size = w1.heap.size + 1 := by show (w1.alloc (.map #[] 0)).heap.size = _; simp
    have h1 : w.heap.size ≤ w1.heap.size := k1.size
    have := NewQ.mk (W := w1) (hq.mono (by omega)) hKo (ho.mono (by omega)) (Kp.refl _) (MapR.new w1) (((Kp.refl _).drew.trans hKq).trans hKo) h1 (fun e => by have := (hlq _ e).1; omega) (fun a e => ⟨fun z => by have := (hlo a e).1; have := (hlq _ z).2; omega, by have := (hlo a e).1; omega⟩) K (by omega)
    simpa [tbC] using this
 case rest =>
  obtain ⟨t, F0, rfl, hT0, hKc⟩ := hcut
  have HT0 := Lib.hid hT0
  have y8 : wc.cell? ⟨b, 8, none⟩ = some (.slice A c.own.length m) := hKc.cell c8
  have hkc := k1.trans hKc
  clear hT0 c0 c1 c2 c3 c4 c5 c6 c7 c8
  have Hput := Lib.hid (fun k (hk : k < c.own.length) => show putAll ((c.own.take (k + 1)).map ownR) [] = setR (ownR c.own[k]) (putAll ((c.own.take k).map ownR) []) by
   rw [List.take_succ_eq_append_getElem hk, List.map_append]
   unfold putAll
   rw [List.foldl_append]
   rfl)
  have Hlen := Lib.hid (fun k => show (putAll ((c.own.take k).map ownR) []).length ≤ 16 by
   have h1 := (vbB (c.own.take k) [] List.Pairwise.nil).2.2
   rw [List.length_take] at h1
   simp only [List.length_nil] at h1
   omega)
  go_wp2_with fail
  go_loopw [25] (fun i wr => ∃ k : Nat, k ≤ c.own.length ∧ i = .int .i64 k ∧ (∃ F, Hid (TabM wr w.heap.size t F ⟨c, putAll ((c.own.take k).map ownR) [], 0, 0⟩)) ∧ Kp w wr) (fun i _ => c.own.length - (intOf i).toNat)
  case atStart => exact ⟨0, Nat.zero_le _, rfl, ⟨F0, HT0⟩, hkc⟩
  case round =>
   obtain ⟨k, hk, rfl, ⟨F, hT⟩, hK⟩ := hrel
   by_cases hlt : k < c.own.length
   ·obtain ⟨a, off, rfl, x0, x1⟩ := pi_at (HS0.out.rd.keep hK) hlt
    have hak := HA.out k hlt
    have htold := (vbU Hok.out).2.2.2.2.1 c.own[k] (List.getElem_mem hlt)
    obtain ⟨p, hp⟩ : ∃ p, c.own[k] = p := ⟨_, rfl⟩
    have HP := Lib.hid (Hput.out k hlt)
    have hPo := HP.out
    rw [hp] at x0 x1 hak htold hPo
    obtain ⟨f, hf⟩ : ∃ f, wr.heap.size = f := ⟨_, rfl⟩
    obtain ⟨V, hV, kV, D0⟩ := Blk.al1 hf #[.int .u32 (p.a : Int), .int .i64 p.l] 39
    have v0 := Blk.f D0 rfl
    have HPo := Lib.hid hPo
    have Htl := Lib.hid htold
    clear hPo htold HP hp
    go_wp2_with fail
    refine (vih p _ hak).mono ?_
    rintro e V1 ⟨rfl, K1'⟩
    rw [Htl.out]
    simp only [if_true]
    clear x0 x1 v0 hV
    obtain ⟨g, hg⟩ : ∃ g, V1.heap.size = g := ⟨_, rfl⟩
    obtain ⟨V2, hV2, kV2, E1⟩ : ∃ V2, (V1.alloc (.cells (roC (ownR p)) 52)).alloc (.cells (roC (ownR p)) 52) = V2 ∧ Kp wr V2 ∧ Blk V2 (g + 1) 52 (roC (ownR p)) := ⟨_, rfl, ((kV.trans K1').alloc _).alloc _, by rw [← hg]; exact Blk.new1 _ _ _ _⟩
    simp only [roC, ownR] at hV2
    rw [show ((0 : Nat) : Int) = 0 from rfl] at hV2
    simp only [ownR]
    go_wp2_with fail
    refine (vdk w.heap.size t (g + 1) F _ (ownR p) _ (hT.out.keep kV2) E1 (vdB Htl.out) hak (by have := Hlen.out k; show (putAll ((c.own.take k).map ownR) []).length < 800000; omega)).mono ?_
    rintro e V3 ⟨rfl, F', hT', hO, hF'⟩
    have hK3 : Kp w V3 := hO.kp (hK.trans kV2) (fun x hx => (hT.out.lo x hx).1)
    have HT' := Lib.hid (show TabM V3 w.heap.size t F' ⟨c, putAll ((c.own.take (k + 1)).map ownR) [], 0, 0⟩ by rw [HPo.out]; exact hT')
    clear hT' hO hF' hV2
    go_wp2_with fail
    go_roundw
    case rel => exact ⟨k + 1, by omega, by go_num, ⟨F', HT'⟩, hK3⟩
    case measure => simp [intOf]; omega
   ·obtain rfl : k = c.own.length := by omega
    go_wp2_with fail
    exact ⟨rfl, .tuple #[.pointer (some ⟨t, 0, none⟩), .int .i64 0], by simp [results, Tryz.results13, go_sem], t, F, rfl, by have := hT.out; rwa [List.take_length] at this, hK⟩
abbrev stopBV (e : Int) : Value := .iface 128 (.int .i64 e)
abbrev stopB (e : Int) : Ending := .panicked [{ v := stopBV e, recovered := false }]
set_option maxRecDepth 100000 in
theorem vbX (t : Nat) (mp : Nat) (w : World) (hb : w.cell? ⟨t, 10, none⟩ = some (.map (some mp))) : Calls Tryz.prog 55 #[.pointer (some ⟨t, 0, none⟩)] w fun e w' => e = .returned (.bool false) ∧ w' = w := by
 have h1 : ∀ w, (binOp .eql 123 (.map (some mp)) (.map none)).run Tryz.prog w = .ok (.bool false) w := fun w => by kernel_rfl
 have h2 : ∀ w, (binOp .eql 43 (.pointer (some ⟨t, 0, none⟩)) (.pointer none)).run Tryz.prog w = .ok (.bool false) w := fun w => by kernel_rfl
 go_enter Tryz.func55, Tryz.ntmps55
 go_wp2_with fail
 go_ret
 exact ⟨rfl, rfl⟩
theorem vkc (w : World) : Calls Tryz.prog 56 #[.int .i64 0] w fun e w' => e = .returned (.tuple #[]) ∧ w' = w := by
 go_enter Tryz.func56, Tryz.ntmps56
 go_wp2_with fail
 go_end0
 exact ⟨rfl, rfl⟩
theorem vcq (n : Int) (hn : ¬ n = 0) (w : World) : Calls Tryz.prog 56 #[.int .i64 n] w fun e w' => e = stopB n ∧ w' = w := by
 have h : (n != 0) = true := by simp [hn]
 go_enter Tryz.func56, Tryz.ntmps56
 go_wp2_with fail
 exact ⟨rfl, rfl, rfl⟩
theorem TabM.cellm {w : World} {B t : Nat} {F : List Nat} {T : Tb} (h : TabM w B t F T) : ∃ mp, w.cell? ⟨t, 10, none⟩ = some (.map (some mp)) ∧ MapR w mp T.l := by
 obtain ⟨q, mp, m, A, QF, l, _, X⟩ := h
 exact ⟨mp, X.bk.cell 10, X.mr⟩
theorem TabM.celln {w : World} {B t : Nat} {F : List Nat} {T : Tb} (h : TabM w B t F T) : w.cell? ⟨t, 11, none⟩ = some (.int .i64 T.now) ∧ w.cell? ⟨t, 12, none⟩ = some (.int .i64 T.rf) ∧ ∀ i, w.frozen? ⟨t, i, none⟩ = false := by
 obtain ⟨q, mp, m, A, QF, l, _, X⟩ := h
 exact ⟨X.bk.cell 11, X.bk.cell 12, fun i => X.bk.frozen i⟩
theorem TabM.set_ {w w' : World} {B t : Nat} {F : List Nat} {T T' : Tb} (h : TabM w B t F T) (k : Only [t] w w') (hb : ∀ q A m mp, Blk w t 125 (tbC q T A m mp) → Blk w' t 125 (tbC q T' A m mp)) (hc : T'.c = T.c) (hl : T'.l = T.l) : TabM w' B t F T' := by
 obtain ⟨q, mp, m, A, QF, l, e, X⟩ := h
 exact ⟨q, mp, m, A, QF, l, e, hb _ _ _ _ X.bk, X.qs.only k (fun b eb z => by simp only [List.mem_cons, List.not_mem_nil, or_false] at z; subst z; exact X.tq eb), by rw [hl]; exact X.pm, by rw [hl]; exact X.mr.only k (by simpa using X.mt), by rw [hc]; exact vbr X.ow k (fun a e => by simpa using (X.an a e).2.1), X.tq, X.mq, X.mt, X.an, X.bt, X.bm, by rw [hl]; exact X.u, by rw [hl]; exact X.wf, by rw [hl]; exact X.n⟩
theorem TabM.now_ {w : World} {B t : Nat} {F : List Nat} {T : Tb} (h : TabM w B t F T) (now : Int) : TabM (w.setCell ⟨t, 11, none⟩ (.int .i64 now)) B t F ⟨T.c, T.l, now, T.rf⟩ :=
 h.set_ ((Only.refl [t] w).setCell (p := ⟨t, 11, none⟩) (.inl (by simp)) _) (fun q A m mp hb => by
  have H := hb.set_ 11 (.int .i64 now)
  simp only [tbC, List.setIfInBounds_toArray, List.set_cons_zero, List.set_cons_succ] at H
  exact H) rfl rfl
theorem TabM.rf_ {w : World} {B t : Nat} {F : List Nat} {T : Tb} (h : TabM w B t F T) (n : Int) : TabM (w.setCell ⟨t, 12, none⟩ (.int .i64 n)) B t F ⟨T.c, T.l, T.now, n⟩ :=
 h.set_ ((Only.refl [t] w).setCell (p := ⟨t, 12, none⟩) (.inl (by simp)) _) (fun q A m mp hb => by
  have H := hb.set_ 12 (.int .i64 n)
  simp only [tbC, List.setIfInBounds_toArray, List.set_cons_zero, List.set_cons_succ] at H
  exact H) rfl rfl
set_option maxRecDepth 100000 in
theorem vkd (B t : Nat) (F : List Nat) (T : Tb) (now : Int) (f : FuncId) (hcf : ∀ args w, (callFunc f args).run Tryz.prog w = .ok (.enter f args) w) (x y z : Value) (w : World) (h : TabM w B t F T) (ht : timely T now = true) {R : Ending → World → Prop} (hR : ∀ e w', R e w' → e = .returned (.tuple #[]) ∨ ∃ ch, e = .panicked ch)
  (HC : Calls Tryz.prog f #[x, y, z] (w.setCell ⟨t, 11, none⟩ (.int .i64 now)) R) : Calls Tryz.prog 58 #[.pointer (some ⟨t, 0, none⟩), .int .i64 now, .func (.func f) #[] #[x, y, z]] w R := by
 obtain ⟨h1, h2, h3⟩ := h.celln
 have hz := h3 11
 rw [vcN] at ht
 have d1 : decide (now < T.now) = false := decide_eq_false (by omega)
 have d2 : decide (4611686018426387904 < now) = false := decide_eq_false (by omega)
 have HC' := Lib.hid HC
 have HR := Lib.hid hR
 clear HC hR h3
 go_enter Tryz.func58, Tryz.ntmps58
 go_wp2_with fail
 refine HC'.out.mono ?_
 rintro e w1 hE
 rcases HR.out _ _ hE with rfl | ⟨ch, rfl⟩
 ·go_wp2_with fail
  go_end0
  exact hE
 ·go_wp2_with fail
  exact ⟨rfl, hE⟩
set_option maxRecDepth 100000 in
theorem vke (B t : Nat) (F : List Nat) (T : Tb) (now : Int) (v : Value) (w : World) (h : TabM w B t F T) (hT : 0 ≤ T.now) (ht : timely T now = false) : Calls Tryz.prog 58 #[.pointer (some ⟨t, 0, none⟩), .int .i64 now, v] w fun e w' => e = stopB 170 ∧ w' = w := by
 obtain ⟨h1, h2, h3⟩ := h.celln
 have hz := h3 11
 have ht' : ¬ (0 ≤ now ∧ now ≤ 4611686018426387904 ∧ T.now ≤ now) := fun e => by rw [vcN.2 e] at ht; cases ht
 clear h3
 by_cases d1 : now < T.now
 ·have e1 : decide (now < T.now) = true := decide_eq_true d1
  go_enter Tryz.func58, Tryz.ntmps58
  go_wp2_with (first | (go_at_call 56; refine (vcq 170 (by decide) _).mono ?_; rintro e w' ⟨rfl, rfl⟩))
  exact ⟨rfl, rfl, rfl⟩
 ·have e1 : decide (now < T.now) = false := decide_eq_false d1
  have e2 : decide (4611686018426387904 < now) = true := decide_eq_true (by omega)
  go_enter Tryz.func58, Tryz.ntmps58
  go_wp2_with (first | (go_at_call 56; refine (vcq 170 (by decide) _).mono ?_; rintro e w' ⟨rfl, rfl⟩))
  exact ⟨rfl, rfl, rfl⟩
def GetP (o : Option Rt) (w : World) (e : Ending) (w' : World) : Prop := e = .returned (.tuple #[roV (o.getD zeroR), .bool o.isSome]) ∧ Kp w w'
set_option maxRecDepth 100000 in
theorem vin (B t : Nat) (F : List Nat) (T : Tb) (p : PI) (w : World) (h : TabM w B t F T) (hp : wfP p) : Calls Tryz.prog 162 #[.pointer (some ⟨t, 0, none⟩), pfV p] w (GetP (getR p T.l) w) := by
 have hu : UpR T.l := by obtain ⟨_, _, _, _, _, _, _, X⟩ := h; exact X.u
 have hw : ∀ r ∈ T.l, wfP r.p := by obtain ⟨_, _, _, _, _, _, _, X⟩ := h; exact X.wf
 obtain ⟨b, hb⟩ : ∃ b, w.heap.size = b := ⟨_, rfl⟩
 obtain ⟨W, hW, kW, B0, B1⟩ := Blk.al2 hb #[.int .u32 (p.a : Int), .int .i64 p.l] 39 zero9 52
 unfold zero9 at hW
 obtain ⟨mp, hm, hM⟩ := (h.keep kW).cellm
 obtain ⟨o, ho⟩ : ∃ o, getR p T.l = o := ⟨_, rfl⟩
 have hlk := fun k => vaL hM hu hw hp (W.drewN k) rfl
 have hlk1 := vaL hM hu hw hp W.drew rfl
 have hlk2 := fun ob => vaL (hM.keep ((Kp.refl W).alloc ob)) hu hw hp (W.alloc ob).drew rfl
 have hlk3 := fun ob => vaL (hM.keep ((Kp.refl W).alloc ob)) hu hw hp (W.alloc ob) rfl
 have hm2 : ∀ ob, (W.alloc ob).cell? ⟨t, 10, none⟩ = some (.map (some mp)) := fun ob => ((Kp.refl W).alloc ob).cell hm
 obtain ⟨o, ho⟩ : ∃ o, getR p T.l = o := ⟨_, rfl⟩
 rw [ho] at hlk1 ⊢
 simp only [ho] at hlk2 hlk3
 obtain ⟨r, hr⟩ : ∃ r, o.getD zeroR = r := ⟨_, rfl⟩
 rw [hr] at hlk1
 simp only [hr] at hlk2 hlk3
 obtain ⟨is, his⟩ : ∃ is, o.isSome = is := ⟨_, rfl⟩
 rw [his] at hlk1
 simp only [his] at hlk2 hlk3
 have HR := Lib.hid hr
 have HI := Lib.hid his
 clear ho hr his hu hw h hlk
 have hlt := B1.lt
 obtain ⟨c0, c1⟩ := Blk.p2 B0
 have c0' : ∀ ob, (W.alloc ob).cell? ⟨b, 0, none⟩ = some (.int .u32 (p.a : Int)) := fun ob => ((Kp.refl W).alloc ob).cell c0
 have c1' : ∀ ob, (W.alloc ob).cell? ⟨b, 1, none⟩ = some (.int .i64 p.l) := fun ob => ((Kp.refl W).alloc ob).cell c1
 go_enter Tryz.func162, Tryz.ntmps162
 go_upto_region 3 with (first | (go_at_call 55; refine (vbX t mp _ hm).mono ?_; rintro e w' ⟨rfl, hw'⟩; rw [hw']; clear hw' w'))
 go_cut [6, 7] from 11 (fun s6 s7 wx => s6 = .pointer (some ⟨W.heap.size, 0, none⟩) ∧ s7 = .bool is ∧ wx = (W.alloc (.cells #[.int .u32 (r.p.a : Int), .int .i64 r.p.l, .int .i64 r.s, .int .i64 r.m, .int .i64 r.l, .int .i64 r.f, .int .u32 (r.x : Int), .int .i64 r.d, .bool r.c] 132)).drew)
 case first =>
  go_region_with (fail)
  all_goals
   go_wp2_with fail
   go_meet
   case rel => exact ⟨rfl, rfl, rfl⟩
 case rest =>
  obtain ⟨rfl, rfl, rfl⟩ := hcut
  clear hlk1 hlk2 hlk3 hm2 c0' c1'
  obtain ⟨d, hd⟩ : ∃ d, W.heap.size = d := ⟨_, rfl⟩
  obtain ⟨V, hV, kV, D1, D2⟩ : ∃ V, W.alloc (.cells (roC r) 132) = V ∧ Kp w V ∧ Blk V (b + 1) 52 zero9 ∧ Blk V d 132 (roC r) := ⟨_, rfl, kW.alloc _, B1.alloc _, by rw [← hd]; exact Blk.new _ _ _⟩
  unfold roC at hV
  rw [hV, hd]
  have hbd : ¬ d = b + 1 := by omega
  have hbd' : ¬ b + 1 = d := by omega
  have q0 := Blk.f (l := [.int .u32 0, .int .i64 0, .int .i64 0, .int .i64 0, .int .i64 0, .int .i64 0, .int .u32 0, .int .i64 0, .bool false]) D1 rfl
  have z0 := Blk.frozen D1
  have y0 := Blk.f D2 rfl
  obtain ⟨R, hR, BR, kR⟩ := Blk.put9 D1 r kV (by omega)
  simp only [roSet] at hR
  obtain ⟨u0, u1, u2, u3, u4, u5, u6, u7, u8⟩ := vaa BR
  go_wp2_with fail
  exact ⟨rfl, .tuple #[roV r, .bool is], by simp [results, Tryz.results162, go_sem, u0, u1, u2, u3, u4, u5, u6, u7, u8], by rw [HR.out, HI.out], kR.drew⟩
end

section
open Go.RowKit
structure LkM (W : World) (k t : Nat) (fc c : Int) (A : Option Addr) (m : Nat) (es : List En) (er : Int) : Prop where
 bk : Blk W k 274 #[.pointer (some ⟨t, 0, none⟩), .int .i64 fc, .int .i64 c, .slice A es.length m, .int .i64 er]
 rd : Rd W 6 En.enc A es
theorem LkM.keep {W W' : World} {k t : Nat} {fc c er : Int} {A : Option Addr} {m : Nat} {es : List En} (h : LkM W k t fc c A m es er) (K : Kp W W') : LkM W' k t fc c A m es er := ⟨h.bk.keep K, h.rd.keep K⟩
abbrev lkP (k : Nat) : Value := .pointer (some ⟨k, 0, none⟩)
def respB (c er : Int) : Bool := (er == 0) && (c == 2)
def badE (e : En) : Bool := (whyE e != 0) || (e.t != 0)
def byE (T : Tb) (fc : Int) (e : En) : Int × Bool := if epN e = 0 then (match getR (epP e) T.l with | some r => (r.m, (r.s == 2) && (r.f == fc)) | none => (16, false)) else (16, false)
def unpE (T : Tb) (fc : Int) (e : En) : Bool := (byE T fc e).2 && ((e.k : Int) != 16)
def unlE (T : Tb) (fc : Int) (e : En) : Bool := (!(byE T fc e).2) && ((e.k : Int) != IntKind.u32.wrap (byE T fc e).1)
theorem vkK {e : En} (h : e.wf) : wfP (epP e) := by
 unfold epP
 split
 ·have := vjd e.m
  exact ⟨h.1, by show wfI (lenM e.m : Int); unfold wfI; omega⟩
 ·exact ⟨by decide, by show wfI (0 : Int); unfold wfI; omega⟩
section
variable (k t : Nat) (fc c er : Int) (A : Option Addr) (m : Nat) (es : List En)
set_option maxRecDepth 100000 in
theorem vbs (w : World) (h : LkM w k t fc c A m es er) : Calls Tryz.prog 95 #[lkP k] w fun r w' => r = .returned (.bool (respB c er)) ∧ w' = w := by
 have u := Blk.f h.bk rfl
 have H : Hid (respB c er = ((er == 0) && (c == 2))) := Lib.hid rfl
 clear h
 cases h1 : (er == 0)
 all_goals
  rw [h1] at H
  go_enter Tryz.func95, Tryz.ntmps95
  go_wp2_with fail
  go_ret
  exact ⟨by rw [H.out]; rfl, rfl⟩
set_option maxRecDepth 100000 in
theorem vkf (e : En) (w : World) (he : e.wf) : Calls Tryz.prog 222 #[lkP k, enV e] w fun r w' => r = .returned (.bool (badE e)) ∧ Kp w w' := by
 obtain ⟨b, hb⟩ : ∃ b, w.heap.size = b := ⟨_, rfl⟩
 obtain ⟨W, hW, kW, B0⟩ := Blk.al1 hb (enC e) 66
 unfold enC at hW
 have HB0 := Lib.hid B0
 have u := Blk.f B0 rfl
 have HW := Lib.hid he
 have H : Hid (badE e = ((whyE e != 0) || (e.t != 0))) := Lib.hid rfl
 obtain ⟨y, hy⟩ : ∃ y, whyE e = y := ⟨_, rfl⟩
 have HY := Lib.hid hy
 rw [hy] at H
 clear he B0
 cases h1 : (y != 0)
 all_goals
  rw [h1] at H
  go_enter Tryz.func222, Tryz.ntmps222
  go_wp2_with fail
  refine (vbP e _ HW.out).mono ?_
  rintro r w1 ⟨rfl, K1⟩
  rw [HY.out]
  have HK := Lib.hid (kW.trans K1)
  have v := Blk.f (HB0.out.keep K1) rfl
  clear hW u K1
  go_wp2_with fail
  go_ret
  exact ⟨by rw [H.out]; rfl, HK.out⟩
set_option maxRecDepth 100000 in
theorem viN (B : Nat) (F : List Nat) (T : Tb) (e : En) (w : World) (h : LkM w k t fc c A m es er) (hT : TabM w B t F T) (he : e.wf) : Calls Tryz.prog 286 #[lkP k, enV e] w fun r w' => r = .returned (.tuple #[.int .i64 (byE T fc e).1, .bool (byE T fc e).2]) ∧ Kp w w' := by
 obtain ⟨b, hb⟩ : ∃ b, w.heap.size = b := ⟨_, rfl⟩
 obtain ⟨W, hW, kW, B0⟩ := Blk.al1 hb (enC e) 66
 unfold enC at hW
 have u := Blk.f B0 rfl
 have HW := Lib.hid he
 have HPW := Lib.hid (vkK he)
 have HL0 := Lib.hid (h.keep kW)
 have HT0 := Lib.hid (hT.keep kW)
 have HkW := Lib.hid kW
 clear he B0 h hT kW
 by_cases h0 : epN e = 0
 ·have H0 := Lib.hid h0
  obtain ⟨og, hgo⟩ : ∃ og, getR (epP e) T.l = og := ⟨_, rfl⟩
  have HGO := Lib.hid hgo
  obtain ⟨R, hR⟩ : ∃ R, og.getD zeroR = R := ⟨_, rfl⟩
  obtain ⟨is, his⟩ : ∃ is, og.isSome = is := ⟨_, rfl⟩
  have HR := Lib.hid hR
  have HIS := Lib.hid his
  have HF : Hid (byE T fc e = if is = true then (R.m, (R.s == 2) && (R.f == fc)) else (16, false)) := Lib.hid (by
   unfold byE
   rw [if_pos h0, hgo]
   cases og with
   | none => subst his; rfl
   | some r => subst his hR; rfl)
  clear h0 hgo hR his
  go_enter Tryz.func286, Tryz.ntmps286
  go_upto_region 1 with (fail)
  go_upto_region 4 with (first | (go_at_call 99; refine (vbc e _ HW.out).mono ?_; rintro r w1 ⟨rfl, K1⟩; rw [H0.out]; obtain ⟨p1, hp1⟩ : ∃ p1, w1.heap.size = p1 := ⟨_, rfl⟩; obtain ⟨W1, hW1, kW1, B1⟩ := Blk.al1 hp1 #[.int .u32 0, .int .i64 0] 39; obtain ⟨W2, hW2, B2, K2⟩ : ∃ R, (W1.setCell ⟨p1, 0, none⟩ (.int .u32 ((epP e).a : Int))).setCell ⟨p1, 1, none⟩ (.int .i64 (epP e).l) = R ∧ Blk R p1 39 #[.int .u32 ((epP e).a : Int), .int .i64 (epP e).l] ∧ Kp W R := ⟨_, rfl, (B1.set_ 0 _).set_ 1 _, ((K1.trans kW1).setCell (p := ⟨p1, 0, none⟩) (by show W.heap.size ≤ p1; have := K1.size; omega) _).setCell (p := ⟨p1, 1, none⟩) (by show W.heap.size ≤ p1; have := K1.size; omega) _⟩; have z1 := Blk.frozen B1; have y1 := Blk.f B1 rfl; clear u hW))
  have HPB := Lib.hid B2
  have HLK := Lib.hid (HL0.out.keep K2)
  have HTM := Lib.hid (HT0.out.keep K2)
  have HK2 := Lib.hid (HkW.out.trans K2)
  clear B1 B2 K1 K2 kW1 hW1 hW2 z1 y1
  refine' vaz (fun (z : Nat) L V9 => Kp W2 V9 ∧ (L 9 = true → W2.heap.size ≤ z ∧ Blk V9 z 52 (bif L 10 then roC R else roC zeroR))) [18, 19, 20, 21, 22, 23, 17, 24, 25, 8, 10010, 9] (fun z => [lkP k, lkP k, lkP k, .pointer (some ⟨t, 0, none⟩), .agg #[.int .u32 ((epP e).a : Int), .int .i64 (epP e).l], .tuple #[.agg #[.int .u32 (R.p.a : Int), .int .i64 R.p.l, .int .i64 R.s, .int .i64 R.m, .int .i64 R.l, .int .i64 R.f, .int .u32 (R.x : Int), .int .i64 R.d, .bool R.c], .bool is], .tuple #[.agg #[.int .u32 (R.p.a : Int), .int .i64 R.p.l, .int .i64 R.s, .int .i64 R.m, .int .i64 R.l, .int .i64 R.f, .int .u32 (R.x : Int), .int .i64 R.d, .bool R.c], .bool is], .agg #[.int .u32 (R.p.a : Int), .int .i64 R.p.l, .int .i64 R.s, .int .i64 R.m, .int .i64 R.l, .int .i64 R.f, .int .u32 (R.x : Int), .int .i64 R.d, .bool R.c], .bool is, .pointer (some ⟨z, 0, none⟩), undef, .bool is]) (List.replicate 12 true) [9, 10] (by kernel_rfl) (by kernel_rfl) (fun _ => rfl) (fun _ => rfl) (fun _ => rfl) 0 ⟨(Kp.refl _).drew, fun h => (by cases h)⟩ (fun _ L L' _ e h => by simpa only [e 9 (by simp), e 10 (by simp)] using h) ?_ ?_ ?_
  rotate_left
  ·intro z; simp only [List.zip_cons_cons, List.zip_nil_right, wrC, wrN, List.set_cons_zero, List.set_cons_succ, List.set_nil]; rfl
  ·repeat' (first | refine And.intro ?_ ?_ | exact trivial)
   all_goals intro z L a w9 hLi d hcl hM hO K hK
   all_goals have u := Blk.f (HLK.out.bk.keep hM.1) rfl
   all_goals have c2 := Blk.f (HPB.out.keep hM.1) rfl
   all_goals try (go_simp; exact hK z _ _ (hO rfl) (fun _ _ => rfl) rfl)
   ·go_simp
    have hcr := vin B t F T (epP e) w9 (HTM.out.keep hM.1) HPW.out
    unfold GetP at hcr
    rw [HGO.out, HR.out, HIS.out] at hcr
    refine hcr.mono ?_
    rintro e9 wb ⟨rfl, hKc⟩
    exact hK z _ _ ⟨hM.1.trans hKc, fun h => ⟨(hM.2 (by simpa using h)).1, by simpa using (hM.2 (by simpa using h)).2.keep hKc⟩⟩ (fun _ _ => rfl) rfl
   ·go_simp
    have n10 : L 10 = false := vai _ hcl (i := 10) rfl (by rfl) hLi
    exact hK w9.heap.size _ _ ⟨hM.1.alloc _, fun _ => ⟨hM.1.size, by simp [n10]; exact Blk.new w9 52 #[.int .u32 0, .int .i64 0, .int .i64 0, .int .i64 0, .int .i64 0, .int .i64 0, .int .u32 0, .int .i64 0, .bool false]⟩⟩ (but1 hLi rfl) rfl
   ·have h10 := hM.2 (d 9 rfl)
    rw [hLi] at h10
    simp only [cond_false] at h10
    have hB10 := h10.2
    have y := Blk.f (l := [.int .u32 0, .int .i64 0, .int .i64 0, .int .i64 0, .int .i64 0, .int .i64 0, .int .u32 0, .int .i64 0, .bool false]) hB10 rfl
    have f := Blk.frozen hB10
    go_simp
    exact hK z _ _ ⟨Kp.putRo hM.1 h10.1 R, fun _ => ⟨h10.1, by simp; exact Blk.putRo hB10 R⟩⟩ (fun _ _ => rfl) rfl
  intro z L w9 hL hM
  (try simp only [Exit.then])
  rw [hL 10 (by decide)] at hM
  simp only [cond_true] at hM
  have HRB := Lib.hid (hM.2 (hL 9 (by decide))).2
  have HK9 := Lib.hid (HK2.out.trans hM.1)
  have HLK2 := Lib.hid (HLK.out.keep hM.1)
  clear hM hL
  cases is with
  | false =>
   go_wp2_with fail
   exact bodyPost_ret (v := .tuple #[.int .i64 16, .bool false]) (by simp [results, Tryz.results286, go_sem]) rfl ⟨by rw [HF.out]; rfl, HK9.out⟩
  | true =>
   cases hs : (R.s == 2)
   all_goals
    rw [hs] at HF
   ·go_upto_region 7 with (fail)
    refine' vaz (fun (_ : Unit) _ V9 => Kp _ V9) [28, 29, 30, 31, 32, 33, 34, 35, 36, 37, 38, 39, 40, 41, 4, 5] (fun (_ : Unit) => [.pointer (some ⟨z, 3, none⟩), .int .i64 R.m, .pointer (some ⟨z, 2, none⟩), .int .i64 R.s, .bool false, .bool false, undef, undef, undef, undef, undef, undef, undef, .bool false, .int .i64 R.m, .bool false]) [true, true, true, true, true, true, false, false, false, false, false, false, false, true, true, true] [] (by kernel_rfl) (by kernel_rfl) (fun _ => rfl) (fun _ => rfl) (fun _ => rfl) () (Kp.refl _).drew (fun _ _ _ _ _ h => h) ?_ ?_ ?_
    rotate_left
    ·intro z; simp only [List.zip_cons_cons, List.zip_nil_right, wrC, wrN, List.set_cons_zero, List.set_cons_succ, List.set_nil]; rfl
    ·repeat' (first | refine And.intro ?_ ?_ | exact trivial)
     all_goals intro z L a w9 hLi d hcl hM hO K hK
     all_goals try (go_simp; exact hK z _ _ (hO rfl) (fun _ _ => rfl) rfl)
     ·have u := Blk.f (HRB.out.keep hM) rfl
      go_simp
      exact hK z _ _ (hO rfl) (fun _ _ => rfl) rfl
     ·have u := Blk.f (HRB.out.keep hM) rfl
      go_simp
      exact hK z _ _ (hO rfl) (fun _ _ => rfl) rfl
    intro z L w9 hL KV
    (try simp only [Exit.then])
    have HKV := Lib.hid (HK9.out.trans KV)
    go_wp2_with fail
    exact bodyPost_ret (v := .tuple #[.int .i64 R.m, .bool _]) (by simp [results, Tryz.results286, go_sem]; rfl) rfl ⟨by rw [HF.out]; rfl, HKV.out⟩
   ·go_upto_region 7 with (fail)
    refine' vaz (fun (_ : Unit) _ V9 => Kp _ V9) [28, 29, 30, 31, 32, 33, 34, 35, 36, 37, 38, 39, 40, 41, 4, 5] (fun (_ : Unit) => [.pointer (some ⟨z, 3, none⟩), .int .i64 R.m, .pointer (some ⟨z, 2, none⟩), .int .i64 R.s, .bool true, .bool true, .pointer (some ⟨z, 5, none⟩), .int .i64 R.f, lkP k, lkP k, .pointer (some ⟨k, 1, none⟩), .int .i64 fc, .bool (R.f == fc), .bool (R.f == fc), .int .i64 R.m, .bool (R.f == fc)]) (List.replicate 16 true) [] (by kernel_rfl) (by kernel_rfl) (fun _ => rfl) (fun _ => rfl) (fun _ => rfl) () (Kp.refl _).drew (fun _ _ _ _ _ h => h) ?_ ?_ ?_
    rotate_left
    ·intro z; simp only [List.zip_cons_cons, List.zip_nil_right, wrC, wrN, List.set_cons_zero, List.set_cons_succ, List.set_nil]; rfl
    ·repeat' (first | refine And.intro ?_ ?_ | exact trivial)
     all_goals intro z L a w9 hLi d hcl hM hO K hK
     all_goals try (go_simp; exact hK z _ _ (hO rfl) (fun _ _ => rfl) rfl)
     ·have u := Blk.f (HRB.out.keep hM) rfl
      go_simp
      exact hK z _ _ (hO rfl) (fun _ _ => rfl) rfl
     ·have u := Blk.f (HRB.out.keep hM) rfl
      go_simp
      exact hK z _ _ (hO rfl) (fun _ _ => rfl) rfl
     ·have u := Blk.f (HRB.out.keep hM) rfl
      go_simp
      exact hK z _ _ (hO rfl) (fun _ _ => rfl) rfl
     ·have u := Blk.f (HLK2.out.bk.keep hM) rfl
      go_simp
      exact hK z _ _ (hO rfl) (fun _ _ => rfl) rfl
    intro z L w9 hL KV
    (try simp only [Exit.then])
    have HKV := Lib.hid (HK9.out.trans KV)
    go_wp2_with fail
    exact bodyPost_ret (v := .tuple #[.int .i64 R.m, .bool _]) (by simp [results, Tryz.results286, go_sem]; rfl) rfl ⟨by rw [HF.out]; rfl, HKV.out⟩
 ·have HF : Hid (byE T fc e = (16, false)) := Lib.hid (by unfold byE; rw [if_neg h0])
  have H0 : Hid (epN e = 140) := Lib.hid (by unfold epN at h0 ⊢; split at h0 <;> simp_all)
  clear h0
  go_enter Tryz.func286, Tryz.ntmps286
  go_wp2_with (first | (go_at_call 99; refine (vbc e _ HW.out).mono ?_; rintro r w1 ⟨rfl, K1⟩; rw [H0.out]; obtain ⟨p1, hp1⟩ : ∃ p1, w1.heap.size = p1 := ⟨_, rfl⟩; obtain ⟨W1, hW1, kW1, B1⟩ := Blk.al1 hp1 #[.int .u32 0, .int .i64 0] 39; obtain ⟨W2, hW2, B2, K2⟩ : ∃ R, (W1.setCell ⟨p1, 0, none⟩ (.int .u32 ((epP e).a : Int))).setCell ⟨p1, 1, none⟩ (.int .i64 (epP e).l) = R ∧ Blk R p1 39 #[.int .u32 ((epP e).a : Int), .int .i64 (epP e).l] ∧ Kp W R := ⟨_, rfl, (B1.set_ 0 _).set_ 1 _, ((K1.trans kW1).setCell (p := ⟨p1, 0, none⟩) (by show W.heap.size ≤ p1; have := K1.size; omega) _).setCell (p := ⟨p1, 1, none⟩) (by show W.heap.size ≤ p1; have := K1.size; omega) _⟩; have z1 := Blk.frozen B1; have y1 := Blk.f B1 rfl; clear u hW))
  exact bodyPost_ret (v := .tuple #[.int .i64 16, .bool false]) (by simp [results, Tryz.results286, go_sem]) rfl ⟨by rw [HF.out], HkW.out.trans K2⟩
set_option maxRecDepth 100000 in
theorem vkg (B : Nat) (F : List Nat) (T : Tb) (e : En) (w : World) (h : LkM w k t fc c A m es er) (hT : TabM w B t F T) (he : e.wf) : Calls Tryz.prog 224 #[lkP k, enV e] w fun r w' => r = .returned (.bool (unpE T fc e)) ∧ Kp w w' := by
 obtain ⟨b, hb⟩ : ∃ b, w.heap.size = b := ⟨_, rfl⟩
 obtain ⟨W, hW, kW, B0⟩ := Blk.al1 hb (enC e) 66
 unfold enC at hW
 have u := Blk.f B0 rfl
 have HB0 := Lib.hid B0
 have HW := Lib.hid he
 have HL0 := Lib.hid (h.keep kW)
 have HT0 := Lib.hid (hT.keep kW)
 have HkW := Lib.hid kW
 clear he B0 h hT kW
 obtain ⟨⟨bm, bh⟩, hy⟩ : ∃ y, byE T fc e = y := ⟨_, rfl⟩
 have HY := Lib.hid hy
 have HF : Hid (unpE T fc e = (bh && ((e.k : Int) != 16))) := Lib.hid (by unfold unpE; rw [hy])
 clear hy
 cases bh
 all_goals
  go_enter Tryz.func224, Tryz.ntmps224
  go_wp2_with (first | (go_at_call 286; refine (viN k t fc c er A m es B F T e _ HL0.out HT0.out HW.out).mono ?_; rw [HY.out]; rintro r w1 ⟨rfl, K1⟩; have v := Blk.f (HB0.out.keep K1) rfl; clear u hW))
  go_ret
  exact ⟨by rw [HF.out]; rfl, HkW.out.trans K1⟩
set_option maxRecDepth 100000 in
theorem vkh (B : Nat) (F : List Nat) (T : Tb) (e : En) (w : World) (h : LkM w k t fc c A m es er) (hT : TabM w B t F T) (he : e.wf) : Calls Tryz.prog 226 #[lkP k, enV e] w fun r w' => r = .returned (.bool (unlE T fc e)) ∧ Kp w w' := by
 obtain ⟨b, hb⟩ : ∃ b, w.heap.size = b := ⟨_, rfl⟩
 obtain ⟨W, hW, kW, B0⟩ := Blk.al1 hb (enC e) 66
 unfold enC at hW
 have u := Blk.f B0 rfl
 have HB0 := Lib.hid B0
 have HW := Lib.hid he
 have HL0 := Lib.hid (h.keep kW)
 have HT0 := Lib.hid (hT.keep kW)
 have HkW := Lib.hid kW
 clear he B0 h hT kW
 obtain ⟨⟨bm, bh⟩, hy⟩ : ∃ y, byE T fc e = y := ⟨_, rfl⟩
 have HY := Lib.hid hy
 have HF : Hid (unlE T fc e = ((!bh) && ((e.k : Int) != IntKind.u32.wrap bm))) := Lib.hid (by unfold unlE; rw [hy])
 clear hy
 cases bh
 all_goals
  go_enter Tryz.func226, Tryz.ntmps226
  go_wp2_with (first | (go_at_call 286; refine (viN k t fc c er A m es B F T e _ HL0.out HT0.out HW.out).mono ?_; rw [HY.out]; rintro r w1 ⟨rfl, K1⟩; have v := Blk.f (HB0.out.keep K1) rfl; clear u hW))
  go_ret
  exact ⟨by rw [HF.out]; rfl, HkW.out.trans K1⟩
end
end

end Go.Proofs.YtgopnfacklmkaaaGreatDoor
