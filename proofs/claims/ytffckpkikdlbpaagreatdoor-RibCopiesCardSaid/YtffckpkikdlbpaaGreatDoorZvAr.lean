/- Lemmas and contracts for the theorem of this claim: RbQ, RbR, RbS, RbT. -/
import Derived.Test.YtffckpkikdlbpaaGreatDoorZvAq
import Derived.StillTailTactics
import Derived.BigQuiet
set_option linter.all false
set_option maxHeartbeats 16000000
namespace Go.Proofs.YtffckpkikdlbpaaGreatDoor
section
open Go.RowKit Go.Maps
theorem QuS.mono {w : World} {B B' a : Nat} {F : List Nat} {l : List Tw} (h : QuS w B a F l) (hB : B' ≤ B) : QuS w B' a F l := by
 obtain ⟨q, m, v, hA, Q, ha, hq, hm, hg⟩ := h.q
 exact ⟨⟨q, m, v, hA, ⟨Q.bk, Q.own.mono hB, Q.mp, Q.wf⟩, ha, hq, hm, hg⟩, fun b e => ⟨Nat.le_trans hB (h.lo b e).1, (h.lo b e).2⟩, h.hp, h.k3⟩
def NewQ (w W : World) (c : Cf) (s : Value) (wx : World) : Prop := ∃ t F, s = .pointer (some ⟨t, 0, none⟩) ∧ TabM wx w.heap.size t F ⟨c, [], 0, 0⟩ ∧ Kp W wx
theorem NewQ.mk {w W : World} {c : Cf} {q mp m : Nat} {A : Option Addr} {QF : List Nat} {w1 w2 w3 w4 : World} (S : QuS w1 w.heap.size q QF []) (k1 : Kp w1 w4) (O : Own w2 w.heap.size 29 2 PI.enc (.slice A c.own.length m) c.own) (k2 : Kp w2 w4) (M : MapR w3 mp []) (k3 : Kp w3 w4) (hm : w.heap.size ≤ mp)
  (hmq : mp ∉ QF) (han : ∀ a, A = some a → a.block ∉ QF ∧ a.block ≠ mp) (kW : Kp W w4) (hw : w.heap.size ≤ w4.heap.size) : NewQ w W c (.pointer (some ⟨w4.heap.size, 0, none⟩)) (w4.alloc (.cells (tbC q ⟨c, [], 0, 0⟩ A m mp) 107)) := by
 have al : Kp w4 (w4.alloc (.cells (tbC q ⟨c, [], 0, 0⟩ A m mp) 107)) := (Kp.refl _).alloc _
 have S4 := S.keep k1
 have O4 := O.keep k2
 have M4 := M.keep k3
 refine ⟨w4.heap.size, _, rfl, ⟨q, mp, m, A, QF, [], rfl, Blk.new _ _ _, S4.keep al, .nil, M4.keep al, O4.keep al, fun e => by have := (S4.lo _ e).2; omega, hmq, fun e => by have := M4.lt; omega, fun a e => ⟨(han a e).1, fun z => by have := (vbx O4 a e).2; omega, (han a e).2⟩, hw, hm, List.Pairwise.nil, by simp, by simp⟩, kW.trans al⟩
set_option maxRecDepth 100000 in
theorem vgj (c : Cf) (A : Option Addr) (m : Nat) (w : World) (hS : SlPI w A m c.own) (hC : CapAt w) (ha : ∀ k (hk : k < c.own.length), c.own[k].a < 4294967296) (hok : okCf c = true) :
  Calls Tryz.prog 17 #[cfV c A c.own.length m] w fun e w' => ∃ t F, e = .returned (.tuple #[.pointer (some ⟨t, 0, none⟩), .int .i64 0]) ∧ TabM w' w.heap.size t F (newT c) ∧ Kp w w' := by
 obtain ⟨b, hb⟩ : ∃ b, w.heap.size = b := ⟨_, rfl⟩
 obtain ⟨W, hW, kW, B0⟩ := Blk.al1 hb (cfC c A c.own.length m) 24
 unfold cfC at hW
 obtain ⟨c0, c1, c2, c3, c4, c5, c6, c7, c8⟩ := Blk.p9 B0
 have HS0 := Lib.hid hS
 have hS := hS.keep kW
 have hlen : c.own.length ≤ 16 := by have := (vaw hok).2.2.1; omega
 have hck : checkC c = 0 := by unfold checkC; rw [if_pos hok]
 have HA := Lib.hid ha
 have Hok := Lib.hid hok
 clear hok
 go_enter Tryz.func17, Tryz.ntmps17
 go_wp2_with fail
 refine (vcD c A m _ hS.le hS.rd (hC.keep kW) ha).mono ?_
 rintro e w1 ⟨rfl, K1⟩
 rw [hck]
 have B1 := B0.keep K1
 have hS := hS.keep K1
 have k1 := kW.trans K1
 clear hW c0 c1 c2 c3 c4 c5 c6 c7 c8 hC ha hck
 obtain ⟨c0, c1, c2, c3, c4, c5, c6, c7, c8⟩ := Blk.p9 B1
 have HS := Lib.hid hS
 clear hS
 go_upto_region 4 with (fail)
 go_cut [5] from 15 (fun s5 wx => NewQ w w1 c s5 wx)
 case first =>
  have K : Kp w1 w1.drew := (Kp.refl w1).drew
  have hmk : ∀ w, (Instr.makeMap 105 none).run Tryz.prog w = .ok (.map (some w.heap.size)) (w.alloc (.map #[] 0)) := fun w => run_makeMap _ _
  go_region_held3 (fun w' => w'.cell? ⟨b, 0, none⟩ = some (.int .i64 c.t0) ∧ w'.cell? ⟨b, 1, none⟩ = some (.int .i64 c.t1) ∧ w'.cell? ⟨b, 2, none⟩ = some (.int .i64 c.t2) ∧ w'.cell? ⟨b, 3, none⟩ = some (.int .i64 c.t3) ∧ w'.cell? ⟨b, 4, none⟩ = some (.int .i64 c.t4) ∧ w'.cell? ⟨b, 5, none⟩ = some (.int .i64 c.t5) ∧ w'.cell? ⟨b, 6, none⟩ = some (.int .i64 c.t6) ∧ w'.cell? ⟨b, 7, none⟩ = some (.int .i64 c.cap) ∧ w'.cell? ⟨b, 8, none⟩ = some (.slice A c.own.length m))
   (first | exact ⟨K.cell c0, K.cell c1, K.cell c2, K.cell c3, K.cell c4, K.cell c5, K.cell c6, K.cell c7, K.cell c8⟩ | exact ⟨(K.alloc _).cell c0, (K.alloc _).cell c1, (K.alloc _).cell c2, (K.alloc _).cell c3, (K.alloc _).cell c4, (K.alloc _).cell c5, (K.alloc _).cell c6, (K.alloc _).cell c7, (K.alloc _).cell c8⟩ | go_keep)
   (first
    | (go_at_call 52; refine (vnv _).mono ?_; rintro e wq ⟨q, QF, rfl, hq, hKq⟩; first | have K := K.trans hKq | have K := (K.alloc (.map #[] 0)).trans hKq)
    | (go_at_call 53; refine (vdg c A m _ (by first | exact HS.out.keep K | exact HS.out.keep (K.alloc _)) (by omega)).mono ?_; rintro e wo ⟨A2, m2, rfl, ho, hKo⟩; first | have K := K.trans hKo | have K := (K.alloc (.map #[] 0)).trans hKo))
  ·go_wp2_with fail
   go_meet
   case rel =>
    have hsz := hKo.size
    have hlq := hq.lo
    have hlo := vbx ho
    have h0 : w.heap.size ≤ w1.drew.heap.size := k1.size
    have hz := hKq.size
    have := NewQ.mk (W := w1) (hq.mono h0) (hKo.alloc (.map #[] 0)) (ho.mono (Nat.le_trans h0 hz)) ((Kp.refl wo).alloc (.map #[] 0)) (MapR.new wo) (Kp.refl _) (by omega) (fun e => by have := (hlq _ e).2; omega) (fun a e => ⟨fun z => by have := (hlo a e).1; have := (hlq _ z).2; omega, by have := (hlo a e).2; omega⟩) (K.alloc _) (by simp; omega)
    simpa [tbC] using this
  ·go_wp2_with fail
   go_meet
   case rel =>
    have hsz := hKo.size
    have hlq := hq.lo
    have hlo := vbx ho
    have h0 : w.heap.size ≤ w1.drew.heap.size := k1.size
    have hz := hKq.size
    simp only [World.size_alloc] at hsz hlo
    have := NewQ.mk (W := w1) (hq.mono h0) (((Kp.refl wq).alloc (.map #[] 0)).trans hKo) (ho.mono (by simp only [World.size_alloc]; omega)) (Kp.refl _) (MapR.new wq) hKo (by omega) (fun e => by have := (hlq _ e).2; omega) (fun a e => ⟨fun z => by have := (hlo a e).1; have := (hlq _ z).2; omega, by have := (hlo a e).1; omega⟩) K (by omega)
    simpa [tbC] using this
  ·go_wp2_with fail
   go_meet
   case rel =>
    have hsz := hKo.size
    have hlq := hq.lo
    have hlo := vbx ho
    have h0 : w.heap.size ≤ w1.drew.heap.size := k1.size
    have hz := hKq.size
    have hs1 : (w1.alloc (.map #[] 0)).drew.heap.size = w1.heap.size + 1 := by show (w1.alloc (.map #[] 0)).heap.size = _; simp
    have h1 : w.heap.size ≤ w1.heap.size := k1.size
    have := NewQ.mk (W := w1) (hq.mono (by omega)) hKo (ho.mono (by omega)) (Kp.refl _) (MapR.new w1) (((Kp.refl _).drew.trans hKq).trans hKo) h1 (fun e => by have := (hlq _ e).1; omega) (fun a e => ⟨fun z => by have := (hlo a e).1; have := (hlq _ z).2; omega, by have := (hlo a e).1; omega⟩) K (by omega)
    simpa [tbC] using this
 case rest =>
  obtain ⟨t, F0, rfl, hT0, hKc⟩ := hcut
  have HT0 := Lib.hid hT0
  have y8 : wc.cell? ⟨b, 8, none⟩ = some (.slice A c.own.length m) := hKc.cell c8
  have hkc := k1.trans hKc
  clear hT0 c0 c1 c2 c3 c4 c5 c6 c7 c8
  have Hput := Lib.hid (fun k (hk : k < c.own.length) => show putAll ((c.own.take (k + 1)).map ownR) [] = setR (ownR c.own[k]) (putAll ((c.own.take k).map ownR) []) by
   rw [List.take_succ_eq_append_getElem hk, List.map_append]
   unfold putAll
   rw [List.foldl_append]
   rfl)
  have Hlen := Lib.hid (fun k => show (putAll ((c.own.take k).map ownR) []).length ≤ 16 by
   have h1 := (vaS (c.own.take k) [] List.Pairwise.nil).2.2
   rw [List.length_take] at h1
   simp only [List.length_nil] at h1
   omega)
  go_wp2_with fail
  go_loopw [25] (fun i wr => ∃ k : Nat, k ≤ c.own.length ∧ i = .int .i64 k ∧ (∃ F, Hid (TabM wr w.heap.size t F ⟨c, putAll ((c.own.take k).map ownR) [], 0, 0⟩)) ∧ Kp w wr) (fun i _ => c.own.length - (intOf i).toNat)
  case atStart => exact ⟨0, Nat.zero_le _, rfl, ⟨F0, HT0⟩, hkc⟩
  case round =>
   obtain ⟨k, hk, rfl, ⟨F, hT⟩, hK⟩ := hrel
   by_cases hlt : k < c.own.length
   ·obtain ⟨a, off, rfl, x0, x1⟩ := pi_at (HS0.out.rd.keep hK) hlt
    have hak := HA.out k hlt
    have htold := (vaw Hok.out).2.2.2.2.1 c.own[k] (List.getElem_mem hlt)
    obtain ⟨p, hp⟩ : ∃ p, c.own[k] = p := ⟨_, rfl⟩
    have HP := Lib.hid (Hput.out k hlt)
    have hPo := HP.out
    rw [hp] at x0 x1 hak htold hPo
    obtain ⟨f, hf⟩ : ∃ f, wr.heap.size = f := ⟨_, rfl⟩
    obtain ⟨V, hV, kV, D0⟩ := Blk.al1 hf #[.int .u32 (p.a : Int), .int .i64 p.l] 29
    have v0 := Blk.f D0 rfl
    have HPo := Lib.hid hPo
    have Htl := Lib.hid htold
    clear hPo htold HP hp
    go_wp2_with fail
    refine (vkI p _ hak).mono ?_
    rintro e V1 ⟨rfl, K1'⟩
    rw [Htl.out]
    simp only [if_true]
    clear x0 x1 v0 hV
    obtain ⟨g, hg⟩ : ∃ g, V1.heap.size = g := ⟨_, rfl⟩
    obtain ⟨V2, hV2, kV2, E1⟩ : ∃ V2, (V1.alloc (.cells (roC (ownR p)) 48)).alloc (.cells (roC (ownR p)) 48) = V2 ∧ Kp wr V2 ∧ Blk V2 (g + 1) 48 (roC (ownR p)) := ⟨_, rfl, ((kV.trans K1').alloc _).alloc _, by rw [← hg]; exact Blk.new1 _ _ _ _⟩
    simp only [roC, ownR] at hV2
    rw [show ((0 : Nat) : Int) = 0 from rfl] at hV2
    simp only [ownR]
    go_wp2_with fail
    refine (vdn w.heap.size t (g + 1) F _ (ownR p) _ (hT.out.keep kV2) E1 (veM Htl.out) hak (by have := Hlen.out k; show (putAll ((c.own.take k).map ownR) []).length < 800000; omega)).mono ?_
    rintro e V3 ⟨rfl, F', hT', hO, hF'⟩
    have hK3 : Kp w V3 := hO.kp (hK.trans kV2) (fun x hx => (hT.out.lo x hx).1)
    have HT' := Lib.hid (show TabM V3 w.heap.size t F' ⟨c, putAll ((c.own.take (k + 1)).map ownR) [], 0, 0⟩ by rw [HPo.out]; exact hT')
    clear hT' hO hF' hV2
    go_wp2_with fail
    go_roundw
    case rel => exact ⟨k + 1, by omega, by go_num, ⟨F', HT'⟩, hK3⟩
    case measure => simp [intOf]; omega
   ·obtain rfl : k = c.own.length := by omega
    go_wp2_with fail
    exact ⟨rfl, .tuple #[.pointer (some ⟨t, 0, none⟩), .int .i64 0], by simp [results, Tryz.results17, go_sem], t, F, rfl, by have := hT.out; rwa [List.take_length] at this, hK⟩
abbrev stopBV (e : Int) : Value := .iface 111 (.int .i64 e)
abbrev stopB (e : Int) : Ending := .panicked [{ v := stopBV e, recovered := false }]
set_option maxRecDepth 100000 in
theorem vkO (w : World) : Calls Tryz.prog 56 #[.pointer none] w fun e w' => e = .returned (.bool true) ∧ w' = w := by
 go_enter Tryz.func56, Tryz.ntmps56
 go_wp2_with fail
 go_ret
 exact ⟨rfl, rfl⟩
set_option maxRecDepth 100000 in
theorem vah (t : Nat) (mp : Nat) (w : World) (hb : w.cell? ⟨t, 10, none⟩ = some (.map (some mp))) : Calls Tryz.prog 56 #[.pointer (some ⟨t, 0, none⟩)] w fun e w' => e = .returned (.bool false) ∧ w' = w := by
 have h1 : ∀ w, (binOp .eql 105 (.map (some mp)) (.map none)).run Tryz.prog w = .ok (.bool false) w := fun w => by kernel_rfl
 have h2 : ∀ w, (binOp .eql 36 (.pointer (some ⟨t, 0, none⟩)) (.pointer none)).run Tryz.prog w = .ok (.bool false) w := fun w => by kernel_rfl
 go_enter Tryz.func56, Tryz.ntmps56
 go_wp2_with fail
 go_ret
 exact ⟨rfl, rfl⟩
theorem vfx (w : World) : Calls Tryz.prog 60 #[.int .i64 0] w fun e w' => e = .returned (.tuple #[]) ∧ w' = w := by
 go_enter Tryz.func60, Tryz.ntmps60
 go_wp2_with fail
 go_end0
 exact ⟨rfl, rfl⟩
theorem vbT (n : Int) (hn : ¬ n = 0) (w : World) : Calls Tryz.prog 60 #[.int .i64 n] w fun e w' => e = stopB n ∧ w' = w := by
 have h : (n != 0) = true := by simp [hn]
 go_enter Tryz.func60, Tryz.ntmps60
 go_wp2_with fail
 exact ⟨rfl, rfl, rfl⟩
theorem TabM.cellm {w : World} {B t : Nat} {F : List Nat} {T : Tb} (h : TabM w B t F T) : ∃ mp, w.cell? ⟨t, 10, none⟩ = some (.map (some mp)) ∧ MapR w mp T.l := by
 obtain ⟨q, mp, m, A, QF, l, _, X⟩ := h
 exact ⟨mp, X.bk.cell 10, X.mr⟩
theorem TabM.celln {w : World} {B t : Nat} {F : List Nat} {T : Tb} (h : TabM w B t F T) : w.cell? ⟨t, 11, none⟩ = some (.int .i64 T.now) ∧ w.cell? ⟨t, 12, none⟩ = some (.int .i64 T.rf) ∧ ∀ i, w.frozen? ⟨t, i, none⟩ = false := by
 obtain ⟨q, mp, m, A, QF, l, _, X⟩ := h
 exact ⟨X.bk.cell 11, X.bk.cell 12, fun i => X.bk.frozen i⟩
theorem TabM.set_ {w w' : World} {B t : Nat} {F : List Nat} {T T' : Tb} (h : TabM w B t F T) (k : Only [t] w w') (hb : ∀ q A m mp, Blk w t 107 (tbC q T A m mp) → Blk w' t 107 (tbC q T' A m mp)) (hc : T'.c = T.c) (hl : T'.l = T.l) : TabM w' B t F T' := by
 obtain ⟨q, mp, m, A, QF, l, e, X⟩ := h
 exact ⟨q, mp, m, A, QF, l, e, hb _ _ _ _ X.bk, X.qs.only k (fun b eb z => by simp only [List.mem_cons, List.not_mem_nil, or_false] at z; subst z; exact X.tq eb), by rw [hl]; exact X.pm, by rw [hl]; exact X.mr.only k (by simpa using X.mt), by rw [hc]; exact vaQ X.ow k (fun a e => by simpa using (X.an a e).2.1), X.tq, X.mq, X.mt, X.an, X.bt, X.bm, by rw [hl]; exact X.u, by rw [hl]; exact X.wf, by rw [hl]; exact X.n⟩
theorem TabM.now_ {w : World} {B t : Nat} {F : List Nat} {T : Tb} (h : TabM w B t F T) (now : Int) : TabM (w.setCell ⟨t, 11, none⟩ (.int .i64 now)) B t F ⟨T.c, T.l, now, T.rf⟩ :=
 h.set_ ((Only.refl [t] w).setCell (p := ⟨t, 11, none⟩) (.inl (by simp)) _) (fun q A m mp hb => by
  have H := hb.set_ 11 (.int .i64 now)
  simp only [tbC, List.setIfInBounds_toArray, List.set_cons_zero, List.set_cons_succ] at H
  exact H) rfl rfl
theorem TabM.rf_ {w : World} {B t : Nat} {F : List Nat} {T : Tb} (h : TabM w B t F T) (n : Int) : TabM (w.setCell ⟨t, 12, none⟩ (.int .i64 n)) B t F ⟨T.c, T.l, T.now, n⟩ :=
 h.set_ ((Only.refl [t] w).setCell (p := ⟨t, 12, none⟩) (.inl (by simp)) _) (fun q A m mp hb => by
  have H := hb.set_ 12 (.int .i64 n)
  simp only [tbC, List.setIfInBounds_toArray, List.set_cons_zero, List.set_cons_succ] at H
  exact H) rfl rfl
set_option maxRecDepth 100000 in
theorem vdo (B t : Nat) (F : List Nat) (T : Tb) (w : World) (h : TabM w B t F T) : Calls Tryz.prog 20 #[.pointer (some ⟨t, 0, none⟩)] w fun e w' => e = .returned (.int .i64 T.rf) ∧ w' = w := by
 obtain ⟨mp, hm, hM⟩ := h.cellm
 obtain ⟨h1, h2, _⟩ := h.celln
 go_enter Tryz.func20, Tryz.ntmps20
 go_wp2_with (first | (go_at_call 56; refine (vah t mp _ hm).mono ?_; rintro e w' ⟨rfl, rfl⟩))
 go_ret
 exact ⟨rfl, rfl⟩
set_option maxRecDepth 100000 in
theorem vmN (B t : Nat) (F : List Nat) (T : Tb) (w : World) (h : TabM w B t F T) : Calls Tryz.prog 22 #[.pointer (some ⟨t, 0, none⟩)] w fun e w' => e = .returned (.int .i64 T.now) ∧ w' = w := by
 obtain ⟨mp, hm, hM⟩ := h.cellm
 obtain ⟨h1, h2, _⟩ := h.celln
 go_enter Tryz.func22, Tryz.ntmps22
 go_wp2_with (first | (go_at_call 56; refine (vah t mp _ hm).mono ?_; rintro e w' ⟨rfl, rfl⟩))
 go_ret
 exact ⟨rfl, rfl⟩
set_option maxRecDepth 100000 in
theorem vem (B t : Nat) (F : List Nat) (T : Tb) (w : World) (h : TabM w B t F T) : Calls Tryz.prog 24 #[.pointer (some ⟨t, 0, none⟩)] w fun e w' => e = .returned (.int .i64 (T.l.length : Int)) ∧ w' = w := by
 obtain ⟨mp, hm, hM⟩ := h.cellm
 have hl := vdm hM 3 w rfl
 go_enter Tryz.func24, Tryz.ntmps24
 go_wp2_with (first | (go_at_call 56; refine (vah t mp _ hm).mono ?_; rintro e w' ⟨rfl, rfl⟩))
 go_ret
 exact ⟨rfl, rfl⟩
def tmC (y : Tw) : Array Value := #[.int .i64 y.k, .int .u32 (y.p.a : Int), .int .i64 y.p.l]
set_option maxRecDepth 100000 in
theorem vkP (B q : Nat) (F : List Nat) (w : World) (S : QuS w B q F []) : Calls Tryz.prog 73 #[.agg #[.pointer (some ⟨q, 0, none⟩)]] w fun e w' => e = .returned (.tuple #[.int .i64 0, .bool false]) ∧ Kp w w' := by
 obtain ⟨b, hb⟩ : ∃ b, w.heap.size = b := ⟨_, rfl⟩
 obtain ⟨W, hW, kW, B0⟩ := Blk.al1 hb #[.pointer (some ⟨q, 0, none⟩)] 103
 have c0 : W.cell? ⟨b, 0, none⟩ = some (.pointer (some ⟨q, 0, none⟩)) := B0.cell 0
 go_enter Tryz.func73, Tryz.ntmps73
 go_wp2_with fail
 refine (vkM B q F _ (S.keep kW)).mono ?_
 rintro e w1 ⟨rfl, K1⟩
 have k1 := (kW.trans K1).alloc (.cells #[.int .i64 0, .int .u32 0, .int .i64 0] 158)
 clear c0 hW
 go_wp2_with fail
 exact ⟨rfl, .tuple #[.int .i64 0, .bool false], by simp [results, Tryz.results73, go_sem], rfl, k1⟩
set_option maxRecDepth 100000 in
theorem viC (B q : Nat) (F : List Nat) (l : List Tw) (w : World) (S : QuS w B q F l) (hl : l ≠ []) : Calls Tryz.prog 73 #[.agg #[.pointer (some ⟨q, 0, none⟩)]] w fun e w' => ∃ y ∈ l, (∀ z ∈ l, ltT z y = false) ∧ e = .returned (.tuple #[.int .i64 y.d, .bool true]) ∧ Kp w w' := by
 obtain ⟨b, hb⟩ : ∃ b, w.heap.size = b := ⟨_, rfl⟩
 obtain ⟨W, hW, kW, B0⟩ := Blk.al1 hb #[.pointer (some ⟨q, 0, none⟩)] 103
 have c0 : W.cell? ⟨b, 0, none⟩ = some (.pointer (some ⟨q, 0, none⟩)) := B0.cell 0
 have HL := Lib.hid hl
 clear hl
 go_enter Tryz.func73, Tryz.ntmps73
 go_wp2_with fail
 refine (vmL B q F l _ (S.keep kW) HL.out).mono ?_
 rintro e w1 ⟨y, hy, hle, rfl, K1⟩
 have H := Lib.hid hle
 have k1 := (kW.trans K1).alloc (.cells (tmC y) 158)
 clear c0 hW hle
 go_wp2_with fail
 exact ⟨rfl, .tuple #[.int .i64 y.d, .bool true], by simp [results, Tryz.results73, go_sem], y, hy, H.out, rfl, k1⟩
def nextV (L : List Rt) : Value := match firstR L with | some r => .tuple #[.int .i64 r.d, .bool true] | none => .tuple #[.int .i64 0, .bool false]
set_option maxRecDepth 100000 in
theorem veS (B t : Nat) (F : List Nat) (T : Tb) (w : World) (h : TabM w B t F T) : Calls Tryz.prog 28 #[.pointer (some ⟨t, 0, none⟩)] w fun e w' => e = .returned (nextV T.l) ∧ Kp w w' := by
 obtain ⟨q, mp, m, A, QF, l, _, X⟩ := h
 obtain ⟨c0, -, -, -, -, -, -, -, -, -, hm⟩ := Blk.v11 X.bk (.pointer (some ⟨q, 0, none⟩)) _ _ _ _ _ _ _ _ _ (.map (some mp)) rfl
 by_cases hl : l = []
 ·subst hl
  have hn : armL T.l = [] := X.pm.symm.eq_nil
  have HN := Lib.hid (show nextV T.l = .tuple #[.int .i64 0, .bool false] by unfold nextV; rw [(vfs X.u).2 hn])
  clear hn
  go_enter Tryz.func28, Tryz.ntmps28
  go_wp2_with (first | (go_at_call 56; refine (vah t mp _ hm).mono ?_; rintro e w' ⟨rfl, rfl⟩))
  refine (vkP B q QF _ X.qs).mono ?_
  rintro e w1 ⟨rfl, K1⟩
  go_wp2_with fail
  exact ⟨rfl, .tuple #[.int .i64 0, .bool false], by simp [results, Tryz.results28, go_sem], by rw [HN.out], K1⟩
 ·have HL := Lib.hid hl
  clear hl
  go_enter Tryz.func28, Tryz.ntmps28
  go_wp2_with (first | (go_at_call 56; refine (vah t mp _ hm).mono ?_; rintro e w' ⟨rfl, rfl⟩))
  refine (viC B q QF l _ X.qs HL.out).mono ?_
  rintro e w1 ⟨y, hy, hle, rfl, K1⟩
  obtain ⟨r, hr, _, _, e2⟩ := vcN X.u (X.pm.mem_iff.1 hy) (fun z hz => hle z (X.pm.mem_iff.2 hz))
  have HN := Lib.hid (show nextV T.l = .tuple #[.int .i64 y.d, .bool true] by unfold nextV; rw [hr, ← e2]; rfl)
  clear hle hr e2
  go_wp2_with fail
  exact ⟨rfl, .tuple #[.int .i64 y.d, .bool true], by simp [results, Tryz.results28, go_sem], by rw [HN.out], K1⟩
set_option maxRecDepth 100000 in
theorem viD (B t : Nat) (F : List Nat) (T : Tb) (now : Int) (f : FuncId) (hcf : ∀ args w, (callFunc f args).run Tryz.prog w = .ok (.enter f args) w) (x y z : Value) (w : World) (h : TabM w B t F T) (ht : timely T now = true) {R : Ending → World → Prop} (hR : ∀ e w', R e w' → e = .returned (.tuple #[]) ∨ ∃ ch, e = .panicked ch)
  (HC : Calls Tryz.prog f #[x, y, z] (w.setCell ⟨t, 11, none⟩ (.int .i64 now)) R) : Calls Tryz.prog 62 #[.pointer (some ⟨t, 0, none⟩), .int .i64 now, .func (.func f) #[] #[x, y, z]] w R := by
 obtain ⟨h1, h2, h3⟩ := h.celln
 have hz := h3 11
 rw [vam] at ht
 have d1 : decide (now < T.now) = false := decide_eq_false (by omega)
 have d2 : decide (4611686018426387904 < now) = false := decide_eq_false (by omega)
 have HC' := Lib.hid HC
 have HR := Lib.hid hR
 clear HC hR h3
 go_enter Tryz.func62, Tryz.ntmps62
 go_wp2_with fail
 refine HC'.out.mono ?_
 rintro e w1 hE
 rcases HR.out _ _ hE with rfl | ⟨ch, rfl⟩
 ·go_wp2_with fail
  go_end0
  exact hE
 ·go_wp2_with fail
  exact ⟨rfl, hE⟩
set_option maxRecDepth 100000 in
theorem vfy (B t : Nat) (F : List Nat) (T : Tb) (now : Int) (v : Value) (w : World) (h : TabM w B t F T) (hT : 0 ≤ T.now) (ht : timely T now = false) : Calls Tryz.prog 62 #[.pointer (some ⟨t, 0, none⟩), .int .i64 now, v] w fun e w' => e = stopB 170 ∧ w' = w := by
 obtain ⟨h1, h2, h3⟩ := h.celln
 have hz := h3 11
 have ht' : ¬ (0 ≤ now ∧ now ≤ 4611686018426387904 ∧ T.now ≤ now) := fun e => by rw [vam.2 e] at ht; cases ht
 clear h3
 by_cases d1 : now < T.now
 ·have e1 : decide (now < T.now) = true := decide_eq_true d1
  go_enter Tryz.func62, Tryz.ntmps62
  go_wp2_with (first | (go_at_call 60; refine (vbT 170 (by decide) _).mono ?_; rintro e w' ⟨rfl, rfl⟩))
  exact ⟨rfl, rfl, rfl⟩
 ·have e1 : decide (now < T.now) = false := decide_eq_false d1
  have e2 : decide (4611686018426387904 < now) = true := decide_eq_true (by omega)
  go_enter Tryz.func62, Tryz.ntmps62
  go_wp2_with (first | (go_at_call 60; refine (vbT 170 (by decide) _).mono ?_; rintro e w' ⟨rfl, rfl⟩))
  exact ⟨rfl, rfl, rfl⟩
def GetP (o : Option Rt) (w : World) (e : Ending) (w' : World) : Prop := e = .returned (.tuple #[roV (o.getD zeroR), .bool o.isSome]) ∧ Kp w w'
set_option maxRecDepth 100000 in
theorem vkQ (B t : Nat) (F : List Nat) (T : Tb) (p : PI) (w : World) (h : TabM w B t F T) (hp : wfP p) : Calls Tryz.prog 32 #[.pointer (some ⟨t, 0, none⟩), pfV p] w (GetP (getR p T.l) w) := by
 have hu : UpR T.l := by obtain ⟨_, _, _, _, _, _, _, X⟩ := h; exact X.u
 have hw : ∀ r ∈ T.l, wfP r.p := by obtain ⟨_, _, _, _, _, _, _, X⟩ := h; exact X.wf
 obtain ⟨b, hb⟩ : ∃ b, w.heap.size = b := ⟨_, rfl⟩
 obtain ⟨W, hW, kW, B0, B1⟩ := Blk.al2 hb #[.int .u32 (p.a : Int), .int .i64 p.l] 29 zero9 48
 unfold zero9 at hW
 obtain ⟨mp, hm, hM⟩ := (h.keep kW).cellm
 obtain ⟨o, ho⟩ : ∃ o, getR p T.l = o := ⟨_, rfl⟩
 have hlk := fun k => vbc hM hu hw hp (W.drewN k) rfl
 have hlk1 := vbc hM hu hw hp W.drew rfl
 have hlk2 := fun ob => vbc (hM.keep ((Kp.refl W).alloc ob)) hu hw hp (W.alloc ob).drew rfl
 have hlk3 := fun ob => vbc (hM.keep ((Kp.refl W).alloc ob)) hu hw hp (W.alloc ob) rfl
 have hm2 : ∀ ob, (W.alloc ob).cell? ⟨t, 10, none⟩ = some (.map (some mp)) := fun ob => ((Kp.refl W).alloc ob).cell hm
 obtain ⟨o, ho⟩ : ∃ o, getR p T.l = o := ⟨_, rfl⟩
 rw [ho] at hlk1 ⊢
 simp only [ho] at hlk2 hlk3
 obtain ⟨r, hr⟩ : ∃ r, o.getD zeroR = r := ⟨_, rfl⟩
 rw [hr] at hlk1
 simp only [hr] at hlk2 hlk3
 obtain ⟨is, his⟩ : ∃ is, o.isSome = is := ⟨_, rfl⟩
 rw [his] at hlk1
 simp only [his] at hlk2 hlk3
 have HR := Lib.hid hr
 have HI := Lib.hid his
 clear ho hr his hu hw h hlk
 have hlt := B1.lt
 obtain ⟨c0, c1⟩ := Blk.p2 B0
 have c0' : ∀ ob, (W.alloc ob).cell? ⟨b, 0, none⟩ = some (.int .u32 (p.a : Int)) := fun ob => ((Kp.refl W).alloc ob).cell c0
 have c1' : ∀ ob, (W.alloc ob).cell? ⟨b, 1, none⟩ = some (.int .i64 p.l) := fun ob => ((Kp.refl W).alloc ob).cell c1
 go_enter Tryz.func32, Tryz.ntmps32
 go_upto_region 3 with (first | (go_at_call 56; refine (vah t mp _ hm).mono ?_; rintro e w' ⟨rfl, hw'⟩; rw [hw']; clear hw' w'))
 go_cut [6, 7] from 11 (fun s6 s7 wx => s6 = .pointer (some ⟨W.heap.size, 0, none⟩) ∧ s7 = .bool is ∧ wx = (W.alloc (.cells #[.int .u32 (r.p.a : Int), .int .i64 r.p.l, .int .i64 r.s, .int .i64 r.m, .int .i64 r.l, .int .i64 r.f, .int .u32 (r.x : Int), .int .i64 r.d, .bool r.c] 87)).drew)
 case first =>
  go_region_with (fail)
  all_goals
   go_wp2_with fail
   go_meet
   case rel => exact ⟨rfl, rfl, rfl⟩
 case rest =>
  obtain ⟨rfl, rfl, rfl⟩ := hcut
  clear hlk1 hlk2 hlk3 hm2 c0' c1'
  obtain ⟨d, hd⟩ : ∃ d, W.heap.size = d := ⟨_, rfl⟩
  obtain ⟨V, hV, kV, D1, D2⟩ : ∃ V, W.alloc (.cells (roC r) 87) = V ∧ Kp w V ∧ Blk V (b + 1) 48 zero9 ∧ Blk V d 87 (roC r) := ⟨_, rfl, kW.alloc _, B1.alloc _, by rw [← hd]; exact Blk.new _ _ _⟩
  unfold roC at hV
  rw [hV, hd]
  have hbd : ¬ d = b + 1 := by omega
  have hbd' : ¬ b + 1 = d := by omega
  have q0 := Blk.f (l := [.int .u32 0, .int .i64 0, .int .i64 0, .int .i64 0, .int .i64 0, .int .i64 0, .int .u32 0, .int .i64 0, .bool false]) D1 rfl
  have z0 := Blk.frozen D1
  have y0 := Blk.f D2 rfl
  obtain ⟨R, hR, BR, kR⟩ := Blk.put9 D1 r kV (by omega)
  simp only [roSet] at hR
  obtain ⟨u0, u1, u2, u3, u4, u5, u6, u7, u8⟩ := vab BR
  go_wp2_with fail
  exact ⟨rfl, .tuple #[roV r, .bool is], by simp [results, Tryz.results32, go_sem, u0, u1, u2, u3, u4, u5, u6, u7, u8], by rw [HR.out, HI.out], kR.drew⟩
theorem TabM.cap_ {w : World} {B t : Nat} {F : List Nat} {T : Tb} (h : TabM w B t F T) : w.cell? ⟨t, 8, none⟩ = some (.int .i64 T.c.cap) := by
 obtain ⟨q, mp, m, A, QF, l, _, X⟩ := h
 exact X.bk.cell 8
set_option maxRecDepth 100000 in
theorem vfz (B t : Nat) (F : List Nat) (T : Tb) (pb pr pt : Nat) (there : Bool) (r : Rt) (w : World) (h : TabM w B t F T) (h0 : Blk w pb 4 #[.bool there]) (h1 : Blk w pr 48 (roC r)) (h2 : Blk w pt 36 #[.pointer (some ⟨t, 0, none⟩)]) (hr : okR r = true) (ha : r.p.a < 4294967296) (hn : T.l.length < 800000) (hf : 0 ≤ T.rf ∧ T.rf ≤ 2147483647) (e0 : there = true) :
  Calls Tryz.prog 63 #[.pointer (some ⟨pb, 0, none⟩), .pointer (some ⟨pr, 0, none⟩), .pointer (some ⟨pt, 0, none⟩)] w (fun e w' => e = .returned (.tuple #[]) ∧ TabT w w' B t F ⟨T.c, setR r T.l, T.now, T.rf⟩) := by
 obtain ⟨mp, hm, hM⟩ := h.cellm
 have hcap := h.cap_
 obtain ⟨g1, g2, g3⟩ := h.celln
 have hz := g3 12
 have hl := fun k => vdm hM 3 (w.drewN k) rfl
 have c0 : w.cell? ⟨pb, 0, none⟩ = some (.bool there) := h0.cell 0
 have d0 : w.cell? ⟨pt, 0, none⟩ = some (.pointer (some ⟨t, 0, none⟩)) := h2.cell 0
 have p0 := Blk.f h1 rfl
 have HH := Lib.hid h
 have H1 := Lib.hid h1
 clear h g3 h0 h1 h2 hM
 subst e0
 go_enter Tryz.func63, Tryz.ntmps63
 go_wp2_with fail
 go_quiet (fail)
 obtain ⟨g, hg⟩ : ∃ g, w.heap.size = g := ⟨_, rfl⟩
 obtain ⟨W, hW, kW, B0⟩ : ∃ W, (w.drewN nq).alloc (.cells (roC r) 48) = W ∧ Kp w W ∧ Blk W g 48 (roC r) := ⟨_, rfl, ((Kp.refl _).drewN _).alloc _, by rw [← hg]; exact Blk.new (w.drewN nq) _ _⟩
 unfold roC at hW
 clear hl
 go_wp2_with fail
 refine (vdn B t g F T r _ (HH.out.keep kW) B0 hr ha hn).mono ?_
 rintro e w2 ⟨rfl, hT⟩
 have HT := Lib.hid (hT.trans (Only.of_kp kW) (fun _ e => .inl e))
 clear hT hW c0 d0 p0 hm hcap g1 g2 hz
 go_wp2_with fail
 go_end0
 exact ⟨rfl, HT.out⟩
set_option maxRecDepth 100000 in
theorem vgT (B t : Nat) (F : List Nat) (T : Tb) (pb pr pt : Nat) (there : Bool) (r : Rt) (w : World) (h : TabM w B t F T) (h0 : Blk w pb 4 #[.bool there]) (h1 : Blk w pr 48 (roC r)) (h2 : Blk w pt 36 #[.pointer (some ⟨t, 0, none⟩)]) (hr : okR r = true) (ha : r.p.a < 4294967296) (hn : T.l.length < 800000) (hf : 0 ≤ T.rf ∧ T.rf ≤ 2147483647) (e0 : there = false) (e1 : (r.s == 2) = false) :
  Calls Tryz.prog 63 #[.pointer (some ⟨pb, 0, none⟩), .pointer (some ⟨pr, 0, none⟩), .pointer (some ⟨pt, 0, none⟩)] w (fun e w' => e = .returned (.tuple #[]) ∧ TabT w w' B t F ⟨T.c, setR r T.l, T.now, T.rf⟩) := by
 obtain ⟨mp, hm, hM⟩ := h.cellm
 have hcap := h.cap_
 obtain ⟨g1, g2, g3⟩ := h.celln
 have hz := g3 12
 have hl := fun k => vdm hM 3 (w.drewN k) rfl
 have c0 : w.cell? ⟨pb, 0, none⟩ = some (.bool there) := h0.cell 0
 have d0 : w.cell? ⟨pt, 0, none⟩ = some (.pointer (some ⟨t, 0, none⟩)) := h2.cell 0
 have p0 := Blk.f h1 rfl
 have HH := Lib.hid h
 have H1 := Lib.hid h1
 clear h g3 h0 h1 h2 hM
 subst e0
 go_enter Tryz.func63, Tryz.ntmps63
 go_wp2_with fail
 go_quiet (fail)
 obtain ⟨g, hg⟩ : ∃ g, w.heap.size = g := ⟨_, rfl⟩
 obtain ⟨W, hW, kW, B0⟩ : ∃ W, (w.drewN nq).alloc (.cells (roC r) 48) = W ∧ Kp w W ∧ Blk W g 48 (roC r) := ⟨_, rfl, ((Kp.refl _).drewN _).alloc _, by rw [← hg]; exact Blk.new (w.drewN nq) _ _⟩
 unfold roC at hW
 clear hl
 go_wp2_with fail
 refine (vdn B t g F T r _ (HH.out.keep kW) B0 hr ha hn).mono ?_
 rintro e w2 ⟨rfl, hT⟩
 have HT := Lib.hid (hT.trans (Only.of_kp kW) (fun _ e => .inl e))
 clear hT hW c0 d0 p0 hm hcap g1 g2 hz
 go_wp2_with fail
 go_end0
 exact ⟨rfl, HT.out⟩
set_option maxRecDepth 100000 in
theorem vgU (B t : Nat) (F : List Nat) (T : Tb) (pb pr pt : Nat) (there : Bool) (r : Rt) (w : World) (h : TabM w B t F T) (h0 : Blk w pb 4 #[.bool there]) (h1 : Blk w pr 48 (roC r)) (h2 : Blk w pt 36 #[.pointer (some ⟨t, 0, none⟩)]) (hr : okR r = true) (ha : r.p.a < 4294967296) (hn : T.l.length < 800000) (hf : 0 ≤ T.rf ∧ T.rf ≤ 2147483647) (e0 : there = false) (e1 : (r.s == 2) = true) (e2 : decide (T.c.cap ≤ (T.l.length : Int)) = false) :
  Calls Tryz.prog 63 #[.pointer (some ⟨pb, 0, none⟩), .pointer (some ⟨pr, 0, none⟩), .pointer (some ⟨pt, 0, none⟩)] w (fun e w' => e = .returned (.tuple #[]) ∧ TabT w w' B t F ⟨T.c, setR r T.l, T.now, T.rf⟩) := by
 obtain ⟨mp, hm, hM⟩ := h.cellm
 have hcap := h.cap_
 obtain ⟨g1, g2, g3⟩ := h.celln
 have hz := g3 12
 have hl := fun k => vdm hM 3 (w.drewN k) rfl
 have c0 : w.cell? ⟨pb, 0, none⟩ = some (.bool there) := h0.cell 0
 have d0 : w.cell? ⟨pt, 0, none⟩ = some (.pointer (some ⟨t, 0, none⟩)) := h2.cell 0
 have p0 := Blk.f h1 rfl
 have HH := Lib.hid h
 have H1 := Lib.hid h1
 clear h g3 h0 h1 h2 hM
 subst e0
 go_enter Tryz.func63, Tryz.ntmps63
 go_wp2_with fail
 go_quiet (fail)
 obtain ⟨g, hg⟩ : ∃ g, w.heap.size = g := ⟨_, rfl⟩
 obtain ⟨W, hW, kW, B0⟩ : ∃ W, (w.drewN nq).alloc (.cells (roC r) 48) = W ∧ Kp w W ∧ Blk W g 48 (roC r) := ⟨_, rfl, ((Kp.refl _).drewN _).alloc _, by rw [← hg]; exact Blk.new (w.drewN nq) _ _⟩
 unfold roC at hW
 clear hl
 go_wp2_with fail
 refine (vdn B t g F T r _ (HH.out.keep kW) B0 hr ha hn).mono ?_
 rintro e w2 ⟨rfl, hT⟩
 have HT := Lib.hid (hT.trans (Only.of_kp kW) (fun _ e => .inl e))
 clear hT hW c0 d0 p0 hm hcap g1 g2 hz
 go_wp2_with fail
 go_end0
 exact ⟨rfl, HT.out⟩
set_option maxRecDepth 100000 in
theorem vgV (B t : Nat) (F : List Nat) (T : Tb) (pb pr pt : Nat) (there : Bool) (r : Rt) (w : World) (h : TabM w B t F T) (h0 : Blk w pb 4 #[.bool there]) (h1 : Blk w pr 48 (roC r)) (h2 : Blk w pt 36 #[.pointer (some ⟨t, 0, none⟩)]) (hr : okR r = true) (ha : r.p.a < 4294967296) (hn : T.l.length < 800000) (hf : 0 ≤ T.rf ∧ T.rf ≤ 2147483647) (e0 : there = false) (e1 : (r.s == 2) = true) (e2 : decide (T.c.cap ≤ (T.l.length : Int)) = true) :
  Calls Tryz.prog 63 #[.pointer (some ⟨pb, 0, none⟩), .pointer (some ⟨pr, 0, none⟩), .pointer (some ⟨pt, 0, none⟩)] w (fun e w' => e = stopB 200 ∧ TabM w' B t F ⟨T.c, T.l, T.now, min (T.rf + 1) 2147483647⟩ ∧ Only [t] w w') := by
 obtain ⟨mp, hm, hM⟩ := h.cellm
 have hcap := h.cap_
 obtain ⟨g1, g2, g3⟩ := h.celln
 have hz := g3 12
 have hl := fun k => vdm hM 3 (w.drewN k) rfl
 have c0 : w.cell? ⟨pb, 0, none⟩ = some (.bool there) := h0.cell 0
 have d0 : w.cell? ⟨pt, 0, none⟩ = some (.pointer (some ⟨t, 0, none⟩)) := h2.cell 0
 have p0 := Blk.f h1 rfl
 have HH := Lib.hid h
 have H1 := Lib.hid h1
 clear h g3 h0 h1 h2 hM
 subst e0
 go_enter Tryz.func63, Tryz.ntmps63
 go_wp2_with fail
 go_quiet (fail)
 clear hl
 rcases Int.lt_or_le 2147483647 (T.rf + 1) with hrf | hrf
 ·have hmin : min (T.rf + 1) 2147483647 = 2147483647 := by omega
  go_wp2_with fail
  go_region
  all_goals go_wp2_with (first | (go_at_call 60; refine (vbT 200 (by decide) _).mono ?_; rintro e w' ⟨rfl, hw'⟩; rw [hw']; clear hw' w'))
  all_goals exact ⟨rfl, rfl, by rw [hmin]; exact (HH.out.keep ((Kp.refl w).drewN _)).rf_ _, ((Only.refl [t] w).drewN _).setCell (p := ⟨t, 12, none⟩) (.inl (by simp)) _⟩
 ·have hmin : min (T.rf + 1) 2147483647 = T.rf + 1 := by omega
  go_wp2_with fail
  go_region
  all_goals go_wp2_with (first | (go_at_call 60; refine (vbT 200 (by decide) _).mono ?_; rintro e w' ⟨rfl, hw'⟩; rw [hw']; clear hw' w'))
  all_goals exact ⟨rfl, rfl, by rw [hmin]; exact (HH.out.keep ((Kp.refl w).drewN _)).rf_ _, ((Only.refl [t] w).drewN _).setCell (p := ⟨t, 12, none⟩) (.inl (by simp)) _⟩
end

end Go.Proofs.YtffckpkikdlbpaaGreatDoor
