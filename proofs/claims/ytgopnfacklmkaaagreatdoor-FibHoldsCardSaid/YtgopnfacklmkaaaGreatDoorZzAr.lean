/- Lemmas and contracts for the theorem of this claim: RbQ, RbR, RbT, RbU. -/
import Derived.Test.YtgopnfacklmkaaaGreatDoorZzAq
import Derived.BigQuiet
import Derived.StillTailTactics
set_option linter.all false
set_option maxHeartbeats 16000000
namespace Go.Proofs.YtgopnfacklmkaaaGreatDoor
section
open Go.RowKit Go.Maps
theorem QuS.mono {w : World} {B B' a : Nat} {F : List Nat} {l : List Tw} (h : QuS w B a F l) (hB : B' ≤ B) : QuS w B' a F l := by
 obtain ⟨q, m, v, hA, Q, ha, hq, hm, hg⟩ := h.q
 exact ⟨⟨q, m, v, hA, ⟨Q.bk, Q.own.mono hB, Q.mp, Q.wf⟩, ha, hq, hm, hg⟩, fun b e => ⟨Nat.le_trans hB (h.lo b e).1, (h.lo b e).2⟩, h.hp, h.k3⟩
def NewQ (w W : World) (c : Cf) (s : Value) (wx : World) : Prop := ∃ t F, s = .pointer (some ⟨t, 0, none⟩) ∧ TabM wx w.heap.size t F ⟨c, [], 0, 0⟩ ∧ Kp W wx
theorem NewQ.mk {w W : World} {c : Cf} {q mp m : Nat} {A : Option Addr} {QF : List Nat} {w1 w2 w3 w4 : World} (S : QuS w1 w.heap.size q QF []) (k1 : Kp w1 w4) (O : Own w2 w.heap.size 39 2 PI.enc (.slice A c.own.length m) c.own) (k2 : Kp w2 w4) (M : MapR w3 mp []) (k3 : Kp w3 w4) (hm : w.heap.size ≤ mp)
  (hmq : mp ∉ QF) (han : ∀ a, A = some a → a.block ∉ QF ∧ a.block ≠ mp) (kW : Kp W w4) (hw : w.heap.size ≤ w4.heap.size) : NewQ w W c (.pointer (some ⟨w4.heap.size, 0, none⟩)) (w4.alloc (.cells (tbC q ⟨c, [], 0, 0⟩ A m mp) 125)) := by
 have al : Kp w4 (w4.alloc (.cells (tbC q ⟨c, [], 0, 0⟩ A m mp) 125)) := (Kp.refl _).alloc _
 have S4 := S.keep k1
 have O4 := O.keep k2
 have M4 := M.keep k3
 refine ⟨w4.heap.size, _, rfl, ⟨q, mp, m, A, QF, [], rfl, Blk.new _ _ _, S4.keep al, .nil, M4.keep al, O4.keep al, fun e => by have := (S4.lo _ e).2; omega, hmq, fun e => by have := M4.lt; omega, fun a e => ⟨(han a e).1, fun z => by have := (vcz O4 a e).2; omega, (han a e).2⟩, hw, hm, List.Pairwise.nil, by simp, by simp⟩, kW.trans al⟩
set_option maxRecDepth 100000 in
theorem vmb (c : Cf) (A : Option Addr) (m : Nat) (w : World) (hS : SlPI w A m c.own) (hC : CapAt w) (ha : ∀ k (hk : k < c.own.length), c.own[k].a < 4294967296) (hok : okCf c = true) :
  Calls Tryz.prog 13 #[cfV c A c.own.length m] w fun e w' => ∃ t F, e = .returned (.tuple #[.pointer (some ⟨t, 0, none⟩), .int .i64 0]) ∧ TabM w' w.heap.size t F (newT c) ∧ Kp w w' := by
 obtain ⟨b, hb⟩ : ∃ b, w.heap.size = b := ⟨_, rfl⟩
 obtain ⟨W, hW, kW, B0⟩ := Blk.al1 hb (cfC c A c.own.length m) 49
 unfold cfC at hW
 obtain ⟨c0, c1, c2, c3, c4, c5, c6, c7, c8⟩ := Blk.p9 B0
 have HS0 := Lib.hid hS
 have hS := hS.keep kW
 have hlen : c.own.length ≤ 16 := by have := (vaO hok).2.2.1; omega
 have hck : checkC c = 0 := by unfold checkC; rw [if_pos hok]
 have HA := Lib.hid ha
 have Hok := Lib.hid hok
 clear hok
 go_enter Tryz.func13, Tryz.ntmps13
 go_wp2_with fail
 refine (vet c A m _ hS.le hS.rd (hC.keep kW) ha).mono ?_
 rintro e w1 ⟨rfl, K1⟩
 rw [hck]
 have B1 := B0.keep K1
 have hS := hS.keep K1
 have k1 := kW.trans K1
 clear hW c0 c1 c2 c3 c4 c5 c6 c7 c8 hC ha hck
 obtain ⟨c0, c1, c2, c3, c4, c5, c6, c7, c8⟩ := Blk.p9 B1
 have HS := Lib.hid hS
 clear hS
 go_upto_region 4 with (fail)
 go_cut [5] from 15 (fun s5 wx => NewQ w w1 c s5 wx)
 case first =>
  have K : Kp w1 w1.drew := (Kp.refl w1).drew
  have hmk : ∀ w, (Instr.makeMap 123 none).run Tryz.prog w = .ok (.map (some w.heap.size)) (w.alloc (.map #[] 0)) := fun w => run_makeMap _ _
  go_region_held3 (fun w' => w'.cell? ⟨b, 0, none⟩ = some (.int .i64 c.t0) ∧ w'.cell? ⟨b, 1, none⟩ = some (.int .i64 c.t1) ∧ w'.cell? ⟨b, 2, none⟩ = some (.int .i64 c.t2) ∧ w'.cell? ⟨b, 3, none⟩ = some (.int .i64 c.t3) ∧ w'.cell? ⟨b, 4, none⟩ = some (.int .i64 c.t4) ∧ w'.cell? ⟨b, 5, none⟩ = some (.int .i64 c.t5) ∧ w'.cell? ⟨b, 6, none⟩ = some (.int .i64 c.t6) ∧ w'.cell? ⟨b, 7, none⟩ = some (.int .i64 c.cap) ∧ w'.cell? ⟨b, 8, none⟩ = some (.slice A c.own.length m))
   (first | exact ⟨K.cell c0, K.cell c1, K.cell c2, K.cell c3, K.cell c4, K.cell c5, K.cell c6, K.cell c7, K.cell c8⟩ | exact ⟨(K.alloc _).cell c0, (K.alloc _).cell c1, (K.alloc _).cell c2, (K.alloc _).cell c3, (K.alloc _).cell c4, (K.alloc _).cell c5, (K.alloc _).cell c6, (K.alloc _).cell c7, (K.alloc _).cell c8⟩ | go_keep)
   (first
    | (go_at_call 50; refine (voC _).mono ?_; rintro e wq ⟨q, QF, rfl, hq, hKq⟩; first | have K := K.trans hKq | have K := (K.alloc (.map #[] 0)).trans hKq)
    | (go_at_call 51; refine (vjk c A m _ (by first | exact HS.out.keep K | exact HS.out.keep (K.alloc _)) (by omega)).mono ?_; rintro e wo ⟨A2, m2, rfl, ho, hKo⟩; first | have K := K.trans hKo | have K := (K.alloc (.map #[] 0)).trans hKo))
  ·go_wp2_with fail
   go_meet
   case rel =>
    have hsz := hKo.size
    have hlq := hq.lo
    have hlo := vcz ho
    have h0 : w.heap.size ≤ w1.drew.heap.size := k1.size
    have hz := hKq.size
    have := NewQ.mk (W := w1) (hq.mono h0) (hKo.alloc (.map #[] 0)) (ho.mono (Nat.le_trans h0 hz)) ((Kp.refl wo).alloc (.map #[] 0)) (MapR.new wo) (Kp.refl _) (by omega) (fun e => by have := (hlq _ e).2; omega) (fun a e => ⟨fun z => by have := (hlo a e).1; have := (hlq _ z).2; omega, by have := (hlo a e).2; omega⟩) (K.alloc _) (by simp; omega)
    simpa [tbC] using this
  ·go_wp2_with fail
   go_meet
   case rel =>
    have hsz := hKo.size
    have hlq := hq.lo
    have hlo := vcz ho
    have h0 : w.heap.size ≤ w1.drew.heap.size := k1.size
    have hz := hKq.size
    simp only [World.size_alloc] at hsz hlo
    have := NewQ.mk (W := w1) (hq.mono h0) (((Kp.refl wq).alloc (.map #[] 0)).trans hKo) (ho.mono (by simp only [World.size_alloc]; omega)) (Kp.refl _) (MapR.new wq) hKo (by omega) (fun e => by have := (hlq _ e).2; omega) (fun a e => ⟨fun z => by have := (hlo a e).1; have := (hlq _ z).2; omega, by have := (hlo a e).1; omega⟩) K (by omega)
    simpa [tbC] using this
  ·go_wp2_with fail
   go_meet
   case rel =>
    have hsz := hKo.size
    have hlq := hq.lo
    have hlo := vcz ho
    have h0 : w.heap.size ≤ w1.drew.heap.size := k1.size
    have hz := hKq.size
    have hs1 : (w1.alloc (.map #[] 0)).drew.heap.size = w1.heap.size + 1 := by show (w1.alloc (.map #[] 0)).heap.size = _; simp
    have h1 : w.heap.size ≤ w1.heap.size := k1.size
    have := NewQ.mk (W := w1) (hq.mono (by omega)) hKo (ho.mono (by omega)) (Kp.refl _) (MapR.new w1) (((Kp.refl _).drew.trans hKq).trans hKo) h1 (fun e => by have := (hlq _ e).1; omega) (fun a e => ⟨fun z => by have := (hlo a e).1; have := (hlq _ z).2; omega, by have := (hlo a e).1; omega⟩) K (by omega)
    simpa [tbC] using this
 case rest =>
  obtain ⟨t, F0, rfl, hT0, hKc⟩ := hcut
  have HT0 := Lib.hid hT0
  have y8 : wc.cell? ⟨b, 8, none⟩ = some (.slice A c.own.length m) := hKc.cell c8
  have hkc := k1.trans hKc
  clear hT0 c0 c1 c2 c3 c4 c5 c6 c7 c8
  have Hput := Lib.hid (fun k (hk : k < c.own.length) => show putAll ((c.own.take (k + 1)).map ownR) [] = setR (ownR c.own[k]) (putAll ((c.own.take k).map ownR) []) by
   rw [List.take_succ_eq_append_getElem hk, List.map_append]
   unfold putAll
   rw [List.foldl_append]
   rfl)
  have Hlen := Lib.hid (fun k => show (putAll ((c.own.take k).map ownR) []).length ≤ 16 by
   have h1 := (vaY (c.own.take k) [] List.Pairwise.nil).2.2
   rw [List.length_take] at h1
   simp only [List.length_nil] at h1
   omega)
  go_wp2_with fail
  go_loopw [25] (fun i wr => ∃ k : Nat, k ≤ c.own.length ∧ i = .int .i64 k ∧ (∃ F, Hid (TabM wr w.heap.size t F ⟨c, putAll ((c.own.take k).map ownR) [], 0, 0⟩)) ∧ Kp w wr) (fun i _ => c.own.length - (intOf i).toNat)
  case atStart => exact ⟨0, Nat.zero_le _, rfl, ⟨F0, HT0⟩, hkc⟩
  case round =>
   obtain ⟨k, hk, rfl, ⟨F, hT⟩, hK⟩ := hrel
   by_cases hlt : k < c.own.length
   ·obtain ⟨a, off, rfl, x0, x1⟩ := pi_at (HS0.out.rd.keep hK) hlt
    have hak := HA.out k hlt
    have htold := (vaO Hok.out).2.2.2.2.1 c.own[k] (List.getElem_mem hlt)
    obtain ⟨p, hp⟩ : ∃ p, c.own[k] = p := ⟨_, rfl⟩
    have HP := Lib.hid (Hput.out k hlt)
    have hPo := HP.out
    rw [hp] at x0 x1 hak htold hPo
    obtain ⟨f, hf⟩ : ∃ f, wr.heap.size = f := ⟨_, rfl⟩
    obtain ⟨V, hV, kV, D0⟩ := Blk.al1 hf #[.int .u32 (p.a : Int), .int .i64 p.l] 39
    have v0 := Blk.f D0 rfl
    have HPo := Lib.hid hPo
    have Htl := Lib.hid htold
    clear hPo htold HP hp
    go_wp2_with fail
    refine (vlW p _ hak).mono ?_
    rintro e V1 ⟨rfl, K1'⟩
    rw [Htl.out]
    simp only [if_true]
    clear x0 x1 v0 hV
    obtain ⟨g, hg⟩ : ∃ g, V1.heap.size = g := ⟨_, rfl⟩
    obtain ⟨V2, hV2, kV2, E1⟩ : ∃ V2, (V1.alloc (.cells (roC (ownR p)) 52)).alloc (.cells (roC (ownR p)) 52) = V2 ∧ Kp wr V2 ∧ Blk V2 (g + 1) 52 (roC (ownR p)) := ⟨_, rfl, ((kV.trans K1').alloc _).alloc _, by rw [← hg]; exact Blk.new1 _ _ _ _⟩
    simp only [roC, ownR] at hV2
    rw [show ((0 : Nat) : Int) = 0 from rfl] at hV2
    simp only [ownR]
    go_wp2_with fail
    refine (veY w.heap.size t (g + 1) F _ (ownR p) _ (hT.out.keep kV2) E1 (vfD Htl.out) hak (by have := Hlen.out k; show (putAll ((c.own.take k).map ownR) []).length < 800000; omega)).mono ?_
    rintro e V3 ⟨rfl, F', hT', hO, hF'⟩
    have hK3 : Kp w V3 := hO.kp (hK.trans kV2) (fun x hx => (hT.out.lo x hx).1)
    have HT' := Lib.hid (show TabM V3 w.heap.size t F' ⟨c, putAll ((c.own.take (k + 1)).map ownR) [], 0, 0⟩ by rw [HPo.out]; exact hT')
    clear hT' hO hF' hV2
    go_wp2_with fail
    go_roundw
    case rel => exact ⟨k + 1, by omega, by go_num, ⟨F', HT'⟩, hK3⟩
    case measure => simp [intOf]; omega
   ·obtain rfl : k = c.own.length := by omega
    go_wp2_with fail
    exact ⟨rfl, .tuple #[.pointer (some ⟨t, 0, none⟩), .int .i64 0], by simp [results, Tryz.results13, go_sem], t, F, rfl, by have := hT.out; rwa [List.take_length] at this, hK⟩
abbrev stopBV (e : Int) : Value := .iface 128 (.int .i64 e)
abbrev stopB (e : Int) : Ending := .panicked [{ v := stopBV e, recovered := false }]
set_option maxRecDepth 100000 in
theorem vdh (t : Nat) (mp : Nat) (w : World) (hb : w.cell? ⟨t, 10, none⟩ = some (.map (some mp))) : Calls Tryz.prog 55 #[.pointer (some ⟨t, 0, none⟩)] w fun e w' => e = .returned (.bool false) ∧ w' = w := by
 have h1 : ∀ w, (binOp .eql 123 (.map (some mp)) (.map none)).run Tryz.prog w = .ok (.bool false) w := fun w => by kernel_rfl
 have h2 : ∀ w, (binOp .eql 43 (.pointer (some ⟨t, 0, none⟩)) (.pointer none)).run Tryz.prog w = .ok (.bool false) w := fun w => by kernel_rfl
 go_enter Tryz.func55, Tryz.ntmps55
 go_wp2_with fail
 go_ret
 exact ⟨rfl, rfl⟩
theorem vjD (w : World) : Calls Tryz.prog 56 #[.int .i64 0] w fun e w' => e = .returned (.tuple #[]) ∧ w' = w := by
 go_enter Tryz.func56, Tryz.ntmps56
 go_wp2_with fail
 go_end0
 exact ⟨rfl, rfl⟩
theorem vdJ (n : Int) (hn : ¬ n = 0) (w : World) : Calls Tryz.prog 56 #[.int .i64 n] w fun e w' => e = stopB n ∧ w' = w := by
 have h : (n != 0) = true := by simp [hn]
 go_enter Tryz.func56, Tryz.ntmps56
 go_wp2_with fail
 exact ⟨rfl, rfl, rfl⟩
theorem TabM.cellm {w : World} {B t : Nat} {F : List Nat} {T : Tb} (h : TabM w B t F T) : ∃ mp, w.cell? ⟨t, 10, none⟩ = some (.map (some mp)) ∧ MapR w mp T.l := by
 obtain ⟨q, mp, m, A, QF, l, _, X⟩ := h
 exact ⟨mp, X.bk.cell 10, X.mr⟩
theorem TabM.celln {w : World} {B t : Nat} {F : List Nat} {T : Tb} (h : TabM w B t F T) : w.cell? ⟨t, 11, none⟩ = some (.int .i64 T.now) ∧ w.cell? ⟨t, 12, none⟩ = some (.int .i64 T.rf) ∧ ∀ i, w.frozen? ⟨t, i, none⟩ = false := by
 obtain ⟨q, mp, m, A, QF, l, _, X⟩ := h
 exact ⟨X.bk.cell 11, X.bk.cell 12, fun i => X.bk.frozen i⟩
theorem TabM.set_ {w w' : World} {B t : Nat} {F : List Nat} {T T' : Tb} (h : TabM w B t F T) (k : Only [t] w w') (hb : ∀ q A m mp, Blk w t 125 (tbC q T A m mp) → Blk w' t 125 (tbC q T' A m mp)) (hc : T'.c = T.c) (hl : T'.l = T.l) : TabM w' B t F T' := by
 obtain ⟨q, mp, m, A, QF, l, e, X⟩ := h
 exact ⟨q, mp, m, A, QF, l, e, hb _ _ _ _ X.bk, X.qs.only k (fun b eb z => by simp only [List.mem_cons, List.not_mem_nil, or_false] at z; subst z; exact X.tq eb), by rw [hl]; exact X.pm, by rw [hl]; exact X.mr.only k (by simpa using X.mt), by rw [hc]; exact vaU X.ow k (fun a e => by simpa using (X.an a e).2.1), X.tq, X.mq, X.mt, X.an, X.bt, X.bm, by rw [hl]; exact X.u, by rw [hl]; exact X.wf, by rw [hl]; exact X.n⟩
theorem TabM.now_ {w : World} {B t : Nat} {F : List Nat} {T : Tb} (h : TabM w B t F T) (now : Int) : TabM (w.setCell ⟨t, 11, none⟩ (.int .i64 now)) B t F ⟨T.c, T.l, now, T.rf⟩ :=
 h.set_ ((Only.refl [t] w).setCell (p := ⟨t, 11, none⟩) (.inl (by simp)) _) (fun q A m mp hb => by
  have H := hb.set_ 11 (.int .i64 now)
  simp only [tbC, List.setIfInBounds_toArray, List.set_cons_zero, List.set_cons_succ] at H
  exact H) rfl rfl
theorem TabM.rf_ {w : World} {B t : Nat} {F : List Nat} {T : Tb} (h : TabM w B t F T) (n : Int) : TabM (w.setCell ⟨t, 12, none⟩ (.int .i64 n)) B t F ⟨T.c, T.l, T.now, n⟩ :=
 h.set_ ((Only.refl [t] w).setCell (p := ⟨t, 12, none⟩) (.inl (by simp)) _) (fun q A m mp hb => by
  have H := hb.set_ 12 (.int .i64 n)
  simp only [tbC, List.setIfInBounds_toArray, List.set_cons_zero, List.set_cons_succ] at H
  exact H) rfl rfl
set_option maxRecDepth 100000 in
theorem vjE (B t : Nat) (F : List Nat) (T : Tb) (w : World) (h : TabM w B t F T) : Calls Tryz.prog 25 #[.pointer (some ⟨t, 0, none⟩)] w fun e w' => e = .returned (.int .i64 T.now) ∧ w' = w := by
 obtain ⟨mp, hm, hM⟩ := h.cellm
 obtain ⟨h1, h2, _⟩ := h.celln
 go_enter Tryz.func25, Tryz.ntmps25
 go_wp2_with (first | (go_at_call 55; refine (vdh t mp _ hm).mono ?_; rintro e w' ⟨rfl, rfl⟩))
 go_ret
 exact ⟨rfl, rfl⟩
set_option maxRecDepth 100000 in
theorem vjF (B t : Nat) (F : List Nat) (T : Tb) (now : Int) (f : FuncId) (hcf : ∀ args w, (callFunc f args).run Tryz.prog w = .ok (.enter f args) w) (x y z : Value) (w : World) (h : TabM w B t F T) (ht : timely T now = true) {R : Ending → World → Prop} (hR : ∀ e w', R e w' → e = .returned (.tuple #[]) ∨ ∃ ch, e = .panicked ch)
  (HC : Calls Tryz.prog f #[x, y, z] (w.setCell ⟨t, 11, none⟩ (.int .i64 now)) R) : Calls Tryz.prog 58 #[.pointer (some ⟨t, 0, none⟩), .int .i64 now, .func (.func f) #[] #[x, y, z]] w R := by
 obtain ⟨h1, h2, h3⟩ := h.celln
 have hz := h3 11
 rw [vaX] at ht
 have d1 : decide (now < T.now) = false := decide_eq_false (by omega)
 have d2 : decide (4611686018426387904 < now) = false := decide_eq_false (by omega)
 have HC' := Lib.hid HC
 have HR := Lib.hid hR
 clear HC hR h3
 go_enter Tryz.func58, Tryz.ntmps58
 go_wp2_with fail
 refine HC'.out.mono ?_
 rintro e w1 hE
 rcases HR.out _ _ hE with rfl | ⟨ch, rfl⟩
 ·go_wp2_with fail
  go_end0
  exact hE
 ·go_wp2_with fail
  exact ⟨rfl, hE⟩
set_option maxRecDepth 100000 in
theorem vjG (B t : Nat) (F : List Nat) (T : Tb) (now : Int) (v : Value) (w : World) (h : TabM w B t F T) (hT : 0 ≤ T.now) (ht : timely T now = false) : Calls Tryz.prog 58 #[.pointer (some ⟨t, 0, none⟩), .int .i64 now, v] w fun e w' => e = stopB 170 ∧ w' = w := by
 obtain ⟨h1, h2, h3⟩ := h.celln
 have hz := h3 11
 have ht' : ¬ (0 ≤ now ∧ now ≤ 4611686018426387904 ∧ T.now ≤ now) := fun e => by rw [vaX.2 e] at ht; cases ht
 clear h3
 by_cases d1 : now < T.now
 ·have e1 : decide (now < T.now) = true := decide_eq_true d1
  go_enter Tryz.func58, Tryz.ntmps58
  go_wp2_with (first | (go_at_call 56; refine (vdJ 170 (by decide) _).mono ?_; rintro e w' ⟨rfl, rfl⟩))
  exact ⟨rfl, rfl, rfl⟩
 ·have e1 : decide (now < T.now) = false := decide_eq_false d1
  have e2 : decide (4611686018426387904 < now) = true := decide_eq_true (by omega)
  go_enter Tryz.func58, Tryz.ntmps58
  go_wp2_with (first | (go_at_call 56; refine (vdJ 170 (by decide) _).mono ?_; rintro e w' ⟨rfl, rfl⟩))
  exact ⟨rfl, rfl, rfl⟩
theorem TabM.cap_ {w : World} {B t : Nat} {F : List Nat} {T : Tb} (h : TabM w B t F T) : w.cell? ⟨t, 8, none⟩ = some (.int .i64 T.c.cap) := by
 obtain ⟨q, mp, m, A, QF, l, _, X⟩ := h
 exact X.bk.cell 8
set_option maxRecDepth 100000 in
theorem vgt (B t : Nat) (F : List Nat) (T : Tb) (pb pr pt : Nat) (there : Bool) (r : Rt) (w : World) (h : TabM w B t F T) (h0 : Blk w pb 4 #[.bool there]) (h1 : Blk w pr 52 (roC r)) (h2 : Blk w pt 43 #[.pointer (some ⟨t, 0, none⟩)]) (hr : okR r = true) (ha : r.p.a < 4294967296) (hn : T.l.length < 800000) (hf : 0 ≤ T.rf ∧ T.rf ≤ 2147483647) (e0 : there = true) :
  Calls Tryz.prog 59 #[.pointer (some ⟨pb, 0, none⟩), .pointer (some ⟨pr, 0, none⟩), .pointer (some ⟨pt, 0, none⟩)] w (fun e w' => e = .returned (.tuple #[]) ∧ TabT w w' B t F ⟨T.c, setR r T.l, T.now, T.rf⟩) := by
 obtain ⟨mp, hm, hM⟩ := h.cellm
 have hcap := h.cap_
 obtain ⟨g1, g2, g3⟩ := h.celln
 have hz := g3 12
 have hl := fun k => vhg hM 3 (w.drewN k) rfl
 have c0 : w.cell? ⟨pb, 0, none⟩ = some (.bool there) := h0.cell 0
 have d0 : w.cell? ⟨pt, 0, none⟩ = some (.pointer (some ⟨t, 0, none⟩)) := h2.cell 0
 have p0 := Blk.f h1 rfl
 have HH := Lib.hid h
 have H1 := Lib.hid h1
 clear h g3 h0 h1 h2 hM
 subst e0
 go_enter Tryz.func59, Tryz.ntmps59
 go_wp2_with fail
 go_quiet (fail)
 obtain ⟨g, hg⟩ : ∃ g, w.heap.size = g := ⟨_, rfl⟩
 obtain ⟨W, hW, kW, B0⟩ : ∃ W, (w.drewN nq).alloc (.cells (roC r) 52) = W ∧ Kp w W ∧ Blk W g 52 (roC r) := ⟨_, rfl, ((Kp.refl _).drewN _).alloc _, by rw [← hg]; exact Blk.new (w.drewN nq) _ _⟩
 unfold roC at hW
 clear hl
 go_wp2_with fail
 refine (veY B t g F T r _ (HH.out.keep kW) B0 hr ha hn).mono ?_
 rintro e w2 ⟨rfl, hT⟩
 have HT := Lib.hid (hT.trans (Only.of_kp kW) (fun _ e => .inl e))
 clear hT hW c0 d0 p0 hm hcap g1 g2 hz
 go_wp2_with fail
 go_end0
 exact ⟨rfl, HT.out⟩
set_option maxRecDepth 100000 in
theorem vhW (B t : Nat) (F : List Nat) (T : Tb) (pb pr pt : Nat) (there : Bool) (r : Rt) (w : World) (h : TabM w B t F T) (h0 : Blk w pb 4 #[.bool there]) (h1 : Blk w pr 52 (roC r)) (h2 : Blk w pt 43 #[.pointer (some ⟨t, 0, none⟩)]) (hr : okR r = true) (ha : r.p.a < 4294967296) (hn : T.l.length < 800000) (hf : 0 ≤ T.rf ∧ T.rf ≤ 2147483647) (e0 : there = false) (e1 : (r.s == 2) = false) :
  Calls Tryz.prog 59 #[.pointer (some ⟨pb, 0, none⟩), .pointer (some ⟨pr, 0, none⟩), .pointer (some ⟨pt, 0, none⟩)] w (fun e w' => e = .returned (.tuple #[]) ∧ TabT w w' B t F ⟨T.c, setR r T.l, T.now, T.rf⟩) := by
 obtain ⟨mp, hm, hM⟩ := h.cellm
 have hcap := h.cap_
 obtain ⟨g1, g2, g3⟩ := h.celln
 have hz := g3 12
 have hl := fun k => vhg hM 3 (w.drewN k) rfl
 have c0 : w.cell? ⟨pb, 0, none⟩ = some (.bool there) := h0.cell 0
 have d0 : w.cell? ⟨pt, 0, none⟩ = some (.pointer (some ⟨t, 0, none⟩)) := h2.cell 0
 have p0 := Blk.f h1 rfl
 have HH := Lib.hid h
 have H1 := Lib.hid h1
 clear h g3 h0 h1 h2 hM
 subst e0
 go_enter Tryz.func59, Tryz.ntmps59
 go_wp2_with fail
 go_quiet (fail)
 obtain ⟨g, hg⟩ : ∃ g, w.heap.size = g := ⟨_, rfl⟩
 obtain ⟨W, hW, kW, B0⟩ : ∃ W, (w.drewN nq).alloc (.cells (roC r) 52) = W ∧ Kp w W ∧ Blk W g 52 (roC r) := ⟨_, rfl, ((Kp.refl _).drewN _).alloc _, by rw [← hg]; exact Blk.new (w.drewN nq) _ _⟩
 unfold roC at hW
 clear hl
 go_wp2_with fail
 refine (veY B t g F T r _ (HH.out.keep kW) B0 hr ha hn).mono ?_
 rintro e w2 ⟨rfl, hT⟩
 have HT := Lib.hid (hT.trans (Only.of_kp kW) (fun _ e => .inl e))
 clear hT hW c0 d0 p0 hm hcap g1 g2 hz
 go_wp2_with fail
 go_end0
 exact ⟨rfl, HT.out⟩
set_option maxRecDepth 100000 in
theorem vhX (B t : Nat) (F : List Nat) (T : Tb) (pb pr pt : Nat) (there : Bool) (r : Rt) (w : World) (h : TabM w B t F T) (h0 : Blk w pb 4 #[.bool there]) (h1 : Blk w pr 52 (roC r)) (h2 : Blk w pt 43 #[.pointer (some ⟨t, 0, none⟩)]) (hr : okR r = true) (ha : r.p.a < 4294967296) (hn : T.l.length < 800000) (hf : 0 ≤ T.rf ∧ T.rf ≤ 2147483647) (e0 : there = false) (e1 : (r.s == 2) = true) (e2 : decide (T.c.cap ≤ (T.l.length : Int)) = false) :
  Calls Tryz.prog 59 #[.pointer (some ⟨pb, 0, none⟩), .pointer (some ⟨pr, 0, none⟩), .pointer (some ⟨pt, 0, none⟩)] w (fun e w' => e = .returned (.tuple #[]) ∧ TabT w w' B t F ⟨T.c, setR r T.l, T.now, T.rf⟩) := by
 obtain ⟨mp, hm, hM⟩ := h.cellm
 have hcap := h.cap_
 obtain ⟨g1, g2, g3⟩ := h.celln
 have hz := g3 12
 have hl := fun k => vhg hM 3 (w.drewN k) rfl
 have c0 : w.cell? ⟨pb, 0, none⟩ = some (.bool there) := h0.cell 0
 have d0 : w.cell? ⟨pt, 0, none⟩ = some (.pointer (some ⟨t, 0, none⟩)) := h2.cell 0
 have p0 := Blk.f h1 rfl
 have HH := Lib.hid h
 have H1 := Lib.hid h1
 clear h g3 h0 h1 h2 hM
 subst e0
 go_enter Tryz.func59, Tryz.ntmps59
 go_wp2_with fail
 go_quiet (fail)
 obtain ⟨g, hg⟩ : ∃ g, w.heap.size = g := ⟨_, rfl⟩
 obtain ⟨W, hW, kW, B0⟩ : ∃ W, (w.drewN nq).alloc (.cells (roC r) 52) = W ∧ Kp w W ∧ Blk W g 52 (roC r) := ⟨_, rfl, ((Kp.refl _).drewN _).alloc _, by rw [← hg]; exact Blk.new (w.drewN nq) _ _⟩
 unfold roC at hW
 clear hl
 go_wp2_with fail
 refine (veY B t g F T r _ (HH.out.keep kW) B0 hr ha hn).mono ?_
 rintro e w2 ⟨rfl, hT⟩
 have HT := Lib.hid (hT.trans (Only.of_kp kW) (fun _ e => .inl e))
 clear hT hW c0 d0 p0 hm hcap g1 g2 hz
 go_wp2_with fail
 go_end0
 exact ⟨rfl, HT.out⟩
set_option maxRecDepth 100000 in
theorem vhY (B t : Nat) (F : List Nat) (T : Tb) (pb pr pt : Nat) (there : Bool) (r : Rt) (w : World) (h : TabM w B t F T) (h0 : Blk w pb 4 #[.bool there]) (h1 : Blk w pr 52 (roC r)) (h2 : Blk w pt 43 #[.pointer (some ⟨t, 0, none⟩)]) (hr : okR r = true) (ha : r.p.a < 4294967296) (hn : T.l.length < 800000) (hf : 0 ≤ T.rf ∧ T.rf ≤ 2147483647) (e0 : there = false) (e1 : (r.s == 2) = true) (e2 : decide (T.c.cap ≤ (T.l.length : Int)) = true) :
  Calls Tryz.prog 59 #[.pointer (some ⟨pb, 0, none⟩), .pointer (some ⟨pr, 0, none⟩), .pointer (some ⟨pt, 0, none⟩)] w (fun e w' => e = stopB 200 ∧ TabM w' B t F ⟨T.c, T.l, T.now, min (T.rf + 1) 2147483647⟩ ∧ Only [t] w w') := by
 obtain ⟨mp, hm, hM⟩ := h.cellm
 have hcap := h.cap_
 obtain ⟨g1, g2, g3⟩ := h.celln
 have hz := g3 12
 have hl := fun k => vhg hM 3 (w.drewN k) rfl
 have c0 : w.cell? ⟨pb, 0, none⟩ = some (.bool there) := h0.cell 0
 have d0 : w.cell? ⟨pt, 0, none⟩ = some (.pointer (some ⟨t, 0, none⟩)) := h2.cell 0
 have p0 := Blk.f h1 rfl
 have HH := Lib.hid h
 have H1 := Lib.hid h1
 clear h g3 h0 h1 h2 hM
 subst e0
 go_enter Tryz.func59, Tryz.ntmps59
 go_wp2_with fail
 go_quiet (fail)
 clear hl
 rcases Int.lt_or_le 2147483647 (T.rf + 1) with hrf | hrf
 ·have hmin : min (T.rf + 1) 2147483647 = 2147483647 := by omega
  go_wp2_with fail
  go_region
  all_goals go_wp2_with (first | (go_at_call 56; refine (vdJ 200 (by decide) _).mono ?_; rintro e w' ⟨rfl, hw'⟩; rw [hw']; clear hw' w'))
  all_goals exact ⟨rfl, rfl, by rw [hmin]; exact (HH.out.keep ((Kp.refl w).drewN _)).rf_ _, ((Only.refl [t] w).drewN _).setCell (p := ⟨t, 12, none⟩) (.inl (by simp)) _⟩
 ·have hmin : min (T.rf + 1) 2147483647 = T.rf + 1 := by omega
  go_wp2_with fail
  go_region
  all_goals go_wp2_with (first | (go_at_call 56; refine (vdJ 200 (by decide) _).mono ?_; rintro e w' ⟨rfl, hw'⟩; rw [hw']; clear hw' w'))
  all_goals exact ⟨rfl, rfl, by rw [hmin]; exact (HH.out.keep ((Kp.refl w).drewN _)).rf_ _, ((Only.refl [t] w).drewN _).setCell (p := ⟨t, 12, none⟩) (.inl (by simp)) _⟩
theorem vjH (e : Int) (w : World) : (Instr.typeAssert (stopBV e) 20 128 true).run Tryz.prog w = .ok (.tuple #[.int .i64 e, .bool true]) w := by kernel_rfl
theorem vjI (w : World) : (Instr.typeAssert .nilIface 20 128 true).run Tryz.prog w = .ok (.tuple #[.int .i64 0, .bool false]) w := by kernel_rfl
def upB (e : Int) : FrameMode := .panicking [{ v := stopBV e, recovered := false }]
def caughtB (e : Int) : FrameMode := .panicking [{ v := stopBV e, recovered := true }]
theorem vhh (e : Int) : recM (upB e) = (stopBV e, caughtB e) := rfl
set_option maxRecDepth 100000 in
theorem vch (p0 p1 : Nat) (y v0 v1 v2 v3 v4 v5 v6 v7 v8 : Value) (e : Int) (w : World) (h0 : Blk w p0 52 #[v0, v1, v2, v3, v4, v5, v6, v7, v8]) (h1 : Blk w p1 44 #[y]) (n01 : ¬ p0 = p1) :
  CallsD Tryz.prog 54 #[.pointer (some ⟨p0, 0, none⟩), .pointer (some ⟨p1, 0, none⟩)] (upB e) w fun en u' w' =>
   en = .returned (.tuple #[]) ∧ u' = caughtB e ∧ Blk w' p0 52 zero9 ∧ Blk w' p1 44 #[.int .i64 e] ∧ Only [p0, p1] w w' := by
 have c0 := Blk.f (l := [v0, v1, v2, v3, v4, v5, v6, v7, v8]) h0 rfl
 have z0 := Blk.frozen h0
 have d0 : w.cell? ⟨p1, 0, none⟩ = some y := h1.cell 0
 have zd := Blk.frozen h1
 have n10 : ¬ p1 = p0 := fun h => n01 h.symm
 have hty := vjH
 obtain ⟨R, hR, BR, BE, hO⟩ := Blk.putO h0 zeroR h1 n01 (v := .int .i64 e)
 simp only [roSet, noR, zeroR, Int.natCast_zero] at hR
 rw [veT] at BR
 refine vaC _ _ (vhh e) Tryz.func54 rfl rfl rfl ?_
 simp only [Tryz.ntmps54, Act.put, List.size_toArray, List.length_cons, List.length_nil, Nat.reduceAdd, Nat.reduceSub, Array.replicate_succ, Array.replicate_zero, List.push_toArray, List.append_toArray, List.nil_append, List.cons_append]
 go_wp2_with fail
 go_end0
 exact ⟨rfl, trivial, BR, BE, hO⟩
set_option maxRecDepth 100000 in
theorem vhZ (p0 p1 : Value) (w : World) :
  CallsD Tryz.prog 54 #[p0, p1] .returning w fun en u' w' => en = .returned (.tuple #[]) ∧ u' = .returning ∧ w' = w := by
 have hty := vjI
 refine vaC _ _ vdD Tryz.func54 rfl rfl rfl ?_
 simp only [Tryz.ntmps54, Act.put, List.size_toArray, List.length_cons, List.length_nil, Nat.reduceAdd, Nat.reduceSub, Array.replicate_succ, Array.replicate_zero, List.push_toArray, List.append_toArray, List.nil_append, List.cons_append]
 go_wp2_with fail
 go_end0
 exact ⟨rfl, trivial, rfl⟩
set_option maxRecDepth 100000 in
theorem via (p0 p1 : Nat) (y v0 : Value) (e : Int) (w : World) (h0 : Blk w p0 3 #[v0]) (h1 : Blk w p1 44 #[y]) (n01 : ¬ p0 = p1) :
  CallsD Tryz.prog 77 #[.pointer (some ⟨p0, 0, none⟩), .pointer (some ⟨p1, 0, none⟩)] (upB e) w fun en u' w' =>
   en = .returned (.tuple #[]) ∧ u' = caughtB e ∧ Blk w' p0 3 #[.int .i64 0] ∧ Blk w' p1 44 #[.int .i64 e] ∧ Only [p0, p1] w w' := by
 have c0 : w.cell? ⟨p0, 0, none⟩ = some (v0) := h0.cell 0
 have z0 := Blk.frozen h0
 have d0 : w.cell? ⟨p1, 0, none⟩ = some y := h1.cell 0
 have zd := Blk.frozen h1
 have n10 : ¬ p1 = p0 := fun h => n01 h.symm
 have hty := vjH
 obtain ⟨R, hR, BR, BE, hO⟩ : ∃ R, ((w.setCell ⟨p0, 0, none⟩ (.int .i64 0)).setCell ⟨p1, 0, none⟩ (.int .i64 e)) = R ∧ Blk R p0 3 #[.int .i64 0] ∧ Blk R p1 44 #[.int .i64 e] ∧ Only [p0, p1] w R :=
  ⟨_, rfl, (h0.set_ 0 (.int .i64 0)).far (p := ⟨p1, 0, none⟩) n01 _, (h1.far (p := ⟨p0, 0, none⟩) n10 (.int .i64 0)).set_ 0 (.int .i64 e), ((Only.refl [p0, p1] w).setCell (p := ⟨p0, 0, none⟩) (.inl (by simp)) (.int .i64 0)).setCell (p := ⟨p1, 0, none⟩) (.inl (by simp)) (.int .i64 e)⟩
 refine vaC _ _ (vhh e) Tryz.func77 rfl rfl rfl ?_
 simp only [Tryz.ntmps77, Act.put, List.size_toArray, List.length_cons, List.length_nil, Nat.reduceAdd, Nat.reduceSub, Array.replicate_succ, Array.replicate_zero, List.push_toArray, List.append_toArray, List.nil_append, List.cons_append]
 go_wp2_with fail
 go_end0
 exact ⟨rfl, trivial, BR, BE, hO⟩
set_option maxRecDepth 100000 in
theorem vjJ (p0 p1 : Value) (w : World) :
  CallsD Tryz.prog 77 #[p0, p1] .returning w fun en u' w' => en = .returned (.tuple #[]) ∧ u' = .returning ∧ w' = w := by
 have hty := vjI
 refine vaC _ _ vdD Tryz.func77 rfl rfl rfl ?_
 simp only [Tryz.ntmps77, Act.put, List.size_toArray, List.length_cons, List.length_nil, Nat.reduceAdd, Nat.reduceSub, Array.replicate_succ, Array.replicate_zero, List.push_toArray, List.append_toArray, List.nil_append, List.cons_append]
 go_wp2_with fail
 go_end0
 exact ⟨rfl, trivial, rfl⟩
theorem voa (c : Cf) (p : PI) (h : Hd) (now : Int) : (hearR c (noR p) h now).s = 0 ∨ (hearR c (noR p) h now).s = 2 := by
 unfold hearR
 rw [if_neg (show ¬ (noR p).s = 1 from (by decide : ¬ (0 : Int) = 1)), if_neg (show ¬ (noR p).s = 2 from (by decide : ¬ (0 : Int) = 2)), if_neg (show ¬ (noR p).s = 3 from (by decide : ¬ (0 : Int) = 3))]
 split
 ·exact .inr rfl
 ·exact .inl rfl
def Hear2P (B t : Nat) (F : List Nat) (T : Tb) (full : Bool) (r : Rt) (w : World) (e : Ending) (w' : World) : Prop := (full = true → e = stopB 200 ∧ TabM w' B t F ⟨T.c, T.l, T.now, min (T.rf + 1) 2147483647⟩ ∧ Only [t] w w') ∧ (full = false → e = .returned (.tuple #[]) ∧ TabT w w' B t F ⟨T.c, setR r T.l, T.now, T.rf⟩)
theorem vjK (B t : Nat) (F : List Nat) (T : Tb) (pb pr pt : Nat) (p : PI) (h : Hd) (now : Int) (r : Rt) (w : World) (hM : TabM w B t F T) (h0 : Blk w pb 4 #[.bool (getR p T.l).isSome]) (h1 : Blk w pr 52 (roC r)) (h2 : Blk w pt 43 #[.pointer (some ⟨t, 0, none⟩)]) (hr : okR r = true) (ha : r.p.a < 4294967296) (hn : T.l.length < 800000) (hf : 0 ≤ T.rf ∧ T.rf ≤ 2147483647) (he : r = hearR T.c (wasR p T.l) h now) :
  Calls Tryz.prog 59 #[.pointer (some ⟨pb, 0, none⟩), .pointer (some ⟨pr, 0, none⟩), .pointer (some ⟨pt, 0, none⟩)] w (Hear2P B t F T (fullB T p r) r w) := by
 cases hg : getR p T.l with
 | some x =>
  rw [hg] at h0
  have hb : fullB T p r = false := by unfold fullB; rw [hg]; rfl
  refine (vgt B t F T pb pr pt true r w hM h0 h1 h2 hr ha hn hf rfl).mono ?_
  rintro e w' hE
  exact ⟨fun z => (by rw [hb] at z; cases z), fun _ => hE⟩
 | none =>
  rw [hg] at h0
  have hw : wasR p T.l = noR p := by unfold wasR; rw [hg]; rfl
  have hs : r.s = 0 ∨ r.s = 2 := by rw [he, hw]; exact voa _ _ _ _
  rcases hs with hs | hs
  ·have hb : fullB T p r = false := by unfold fullB; rw [decide_eq_false (by omega)]; simp
   refine (vhW B t F T pb pr pt false r w hM h0 h1 h2 hr ha hn hf rfl (beqF (by omega))).mono ?_
   rintro e w' hE
   exact ⟨fun z => (by rw [hb] at z; cases z), fun _ => hE⟩
  ·cases hc : decide (T.c.cap ≤ (T.l.length : Int)) with
   | true =>
    have hb : fullB T p r = true := by unfold fullB; rw [hg, decide_eq_true (by omega), hc]; rfl
    refine (vhY B t F T pb pr pt false r w hM h0 h1 h2 hr ha hn hf rfl (beqT hs) hc).mono ?_
    rintro e w' hE
    exact ⟨fun _ => hE, fun z => (by rw [hb] at z; cases z)⟩
   | false =>
    have hb : fullB T p r = false := by unfold fullB; rw [hc]; simp
    refine (vhX B t F T pb pr pt false r w hM h0 h1 h2 hr ha hn hf rfl (beqT hs) hc).mono ?_
    rintro e w' hE
    exact ⟨fun z => (by rw [hb] at z; cases z), fun _ => hE⟩
end

end Go.Proofs.YtgopnfacklmkaaaGreatDoor
